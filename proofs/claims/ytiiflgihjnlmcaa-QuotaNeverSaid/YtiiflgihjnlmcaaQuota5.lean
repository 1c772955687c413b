/- QuotaNever: the plain law of one step, and the walk. No condition. -/
import Derived.Test.YtiiflgihjnlmcaaQuota4
import Derived.Test.YtiiflgihjnlmcaaFlat2
import Derived.Deep.LoopGhost
namespace Go.Proofs.Ytiiflgihjnlmcaa
set_option linter.unusedVariables false
set_option linter.unusedSimpArgs false
open Go.RowKit

/-- One step of the law. -/
def Mt.step (m : Mt) (kind c n t : Int) : Int × Mt := if kind = 1 then m.acts c n else if kind = 2 then m.plan c else if kind = 3 then m.drop c else if kind = 4 then m.tick t else (0, m)

theorem Mt.step_keep (m : Mt) (kind c n t : Int) : (m.step kind c n t).2.st = m.st ∧ (m.step kind c n t).2.ac = m.ac ∧ (m.step kind c n t).2.cl = m.cl := by
  unfold Mt.step Mt.acts Mt.plan Mt.drop Mt.tick Mt.put
  repeat' split
  all_goals exact ⟨rfl, rfl, rfl⟩
theorem MtOk.step {m : Mt} (h : MtOk m) (kind c n t : Int) : MtOk (m.step kind c n t).2 := by
  unfold Mt.step
  split
  · exact h.acts c n
  · split
    · exact h.plan c
    · split
      · exact h.drop c
      · split
        · exact h.tick t
        · exact h
/-- Where it is refused nothing has turned. -/
theorem Mt.step_no {m : Mt} {kind c n t : Int} (h : ¬ (m.step kind c n t).1 = 0) : (m.step kind c n t).2 = m := by
  revert h
  unfold Mt.step Mt.acts Mt.plan Mt.drop Mt.tick
  repeat' split
  all_goals first | (intro _; rfl) | (intro h; exact absurd rfl h)
theorem MtOk.used {m : Mt} (h : MtOk m) (c : Int) : 0 ≤ (m.used c).1 ∧ (m.used c).1 ≤ m.st ∧ 0 ≤ (m.used c).2 ∧ (m.used c).2 ≤ m.ac := by
  unfold Mt.used
  have := h.st0; have := h.ac0
  split
  · exact ⟨h.p0 _, h.p1 _, h.eff _⟩
  · simp only; omega
theorem Mt.used_put {m : Mt} {c d : Int} {x : Int × Int × Int} (hc : 1 ≤ c) (hd : ¬ d = c) : (m.put c.toNat x).used d = m.used d := by
  by_cases h : m.is d
  · have h' : (m.put c.toNat x).is d := h
    have : ¬ d.toNat = c.toNat := by have := h.1; omega
    unfold Mt.used
    rw [if_pos h, if_pos h']
    simp only [Mt.put, Mt.eff, Mt.w, this, if_false]
    rfl
  · have h' : ¬ (m.put c.toNat x).is d := h
    unfold Mt.used
    rw [if_neg h, if_neg h']
/-- Who does nothing has what it had. -/
theorem Mt.step_other {m : Mt} {kind c n t d : Int} (hd : ¬ d = c) (hk : ¬ kind = 4) : (m.step kind c n t).2.used d = m.used d := by
  unfold Mt.step Mt.acts Mt.plan Mt.drop
  rw [if_neg hk]
  split
  · split
    · rfl
    · split
      · rfl
      · rename_i h _; exact Mt.used_put (by unfold Mt.is at h; omega) hd
  · split
    · split
      · rfl
      · split
        · rfl
        · rename_i h _; exact Mt.used_put (by unfold Mt.is at h; omega) hd
    · split
      · split
        · rfl
        · split
          · rfl
          · rename_i h _; exact Mt.used_put (by unfold Mt.is at h; omega) hd
      · rfl
theorem Mt.step_tick {m : Mt} (ok : MtOk m) (t c : Int) : ((m.tick t).2.used c).1 = (m.used c).1 ∧ ((m.tick t).2.w = m.w → ((m.tick t).2.used c).2 = (m.used c).2) ∧ (¬ (m.tick t).2.w = m.w → ((m.tick t).2.used c).2 = 0) := by
  by_cases ht : t < m.now ∨ t > 1000000000000000
  · have e : m.tick t = (223, m) := by unfold Mt.tick; rw [if_pos ht]
    rw [e]
    exact ⟨rfl, fun _ => rfl, fun h => absurd rfl h⟩
  · obtain ⟨m', hm'⟩ : ∃ m' : Mt, m' = { m with now := t } := ⟨_, rfl⟩
    have e : m.tick t = (0, m') := by unfold Mt.tick; rw [if_neg ht, hm']
    have hle : m.w ≤ m'.w := by subst hm'; exact Int.ediv_le_ediv (by have := ok.win1; omega) (show m.now ≤ t by omega)
    have hus : m'.us = m.us := by rw [hm']
    have his : m'.is c ↔ m.is c := by rw [hm']; exact Iff.rfl
    rw [e]
    simp only
    unfold Mt.used
    by_cases hi : m.is c
    · rw [if_pos hi, if_pos (his.2 hi), hus]
      refine ⟨rfl, fun h => ?_, fun h => ?_⟩
      · simp only [Mt.eff]
        rw [h, hus]
      · have h2 := ok.wle c.toNat
        have h3 : (m.us c.toNat).2.2 ≤ m.w := h2
        simp only [Mt.eff]
        rw [hus, if_neg (by omega)]
    · rw [if_neg hi, if_neg (fun h => hi (his.1 h))]
      exact ⟨rfl, fun _ => rfl, fun _ => rfl⟩
theorem Mt.step_acts {m : Mt} {c n : Int} (h : (m.acts c n).1 = 0) : ((m.acts c n).2.used c).2 = (m.used c).2 + n := by
  revert h
  unfold Mt.acts
  split
  · intro h; cases h
  · split
    · intro h; cases h
    · intro _
      rename_i h1 h2 _
      have hi : m.is c := Classical.byContradiction fun h => h1 (Or.inl h)
      unfold Mt.used
      rw [if_pos hi, if_pos (show (m.put c.toNat _).is c from hi)]
      simp only [Mt.put, Mt.eff, Mt.w, if_true]
end Go.Proofs.Ytiiflgihjnlmcaa
