/- RulesLess, without Go and memory: the printed functions answer true at every input. No condition but the integers' own kinds. -/
import Derived.Test.YtiiflgihjnlmcaaPRulesLessx
namespace Go.Proofs.Ytiiflgihjnlmcaa.PRulesLess
open Go.RowKit Go.Proofs.YtiiflgihjnlmcaaW.PrintWords Go.Proofs.YtiiflgihjnlmcaaW.PrintLast Go.Proofs.YtiiflgihjnlmcaaW.PrintMore
def OkR (a b c d e f : Int) : Prop := 1 ≤ a ∧ a ≤ 8 ∧ 1 ≤ b ∧ b ≤ 1000000000 ∧ 1 ≤ c ∧ c ≤ 1000000000 ∧ 1 ≤ d ∧ d ≤ e ∧ e ≤ 1000000000 ∧ d.tmod b = 0 ∧ e.tmod b = 0 ∧ 1 ≤ f ∧ f ≤ 1000000000 ∧ f.tmod c = 0
instance (a b c d e f : Int) : Decidable (OkR a b c d e f) := by unfold OkR; infer_instance

theorem chk (m : Nat) (a b c d e f : Int) : rules_Check.f (m + 6) a b c d e f = some (if OkR a b c d e f then 0 else 70) := by
  unfold OkR
  by_cases h1 : 1 ≤ a <;> by_cases h2 : a ≤ 8 <;> by_cases h3 : 1 ≤ b <;> try (simp [rules_Check.f, rules_within.f, rules_Check.j0, *]; done)
  by_cases h4 : b ≤ 1000000000 <;> by_cases h5 : 1 ≤ c <;> by_cases h6 : c ≤ 1000000000 <;> try (simp [rules_Check.f, rules_within.f, rules_Check.j0, *]; done)
  have hb : ¬ b = 0 := by omega
  have hc : ¬ c = 0 := by omega
  by_cases h7 : d < 1
  · simp [rules_Check.f, rules_within.f, rules_Check.j0, rules_Check.j1, rules_whole.f, *]; omega
  by_cases h8 : d > e
  · simp [rules_Check.f, rules_within.f, rules_Check.j0, rules_Check.j1, rules_whole.f, *]; omega
  by_cases h9 : e > 1000000000
  · simp [rules_Check.f, rules_within.f, rules_Check.j0, rules_Check.j1, rules_whole.f, *]; omega
  by_cases h10 : d.tmod b = 0 <;> by_cases h11 : e.tmod b = 0 <;> by_cases h12 : 1 ≤ f <;> by_cases h13 : f ≤ 1000000000 <;> by_cases h14 : f.tmod c = 0 <;> simp [rules_Check.f, rules_within.f, rules_Check.j0, rules_Check.j1, rules_whole.f, *] <;> omega

def OkQ (c f q : Int) : Prop := 1 ≤ q ∧ q ≤ f ∧ q.tmod c = 0
def OkP (b d e p : Int) : Prop := d ≤ p ∧ p ≤ e ∧ p.tmod b = 0
instance (c f q : Int) : Decidable (OkQ c f q) := by unfold OkQ; infer_instance
instance (b d e p : Int) : Decidable (OkP b d e p) := by unfold OkP; infer_instance

theorem priced1 (a b c d e f p : Int) (hb : ¬ b = 0) : rules_priced.f a b c d e f p = some (decide (OkP b d e p)) := by
  unfold OkP
  by_cases h1 : d ≤ p <;> by_cases h2 : p ≤ e <;> by_cases h3 : p.tmod b = 0 <;> simp [rules_priced.f, rules_within.f, rules_whole.f, *]
theorem sized1 (a b c d e f p : Int) (hb : ¬ c = 0) : rules_sized.f a b c d e f p = some (decide (OkQ c f p)) := by
  unfold OkQ
  by_cases h1 : 1 ≤ p <;> by_cases h2 : p ≤ f <;> by_cases h3 : p.tmod c = 0 <;> simp [rules_sized.f, rules_within.f, rules_whole.f, *]
def EV (a b c d e f cl kind side p q : Int) : Int :=
  if ¬ OkR a b c d e f then 70 else if ¬ (1 ≤ cl ∧ cl ≤ a) then 73 else if ¬ (1 ≤ kind ∧ kind ≤ 5) then 71 else if ¬ (side = 1 ∨ side = 2) then 72 else if ¬ OkQ c f q then 74
  else if (kind = 2 ∧ p = 0) ∨ (¬ kind = 2 ∧ OkP b d e p) then 0 else 75

theorem OkR.nz {a b c d e f : Int} (h : OkR a b c d e f) : ¬ b = 0 ∧ ¬ c = 0 := by unfold OkR at h; omega

theorem entry1 (m : Nat) (a b c d e f cl kind side p q : Int) : rules_Entry.f (m + 6) a b c d e f cl kind side p q = some (EV a b c d e f cl kind side p q) := by
  unfold EV rules_Entry.f
  rw [chk m]
  by_cases hR : OkR a b c d e f
  · obtain ⟨hb, hc⟩ := hR.nz
    rw [if_pos hR, if_neg (show ¬ ¬ OkR a b c d e f from fun h => h hR)]
    simp only [Option.bind_some, if_true]
    by_cases h1 : 1 ≤ cl
    · by_cases h2 : cl ≤ a
      · rw [if_neg (show ¬ ¬ (1 ≤ cl ∧ cl ≤ a) from fun h => h ⟨h1, h2⟩)]
        simp only [rules_within.f, priced1 _ _ _ _ _ _ _ hb, Option.bind_some, h1, h2, if_true, ge_iff_le, decide_true]
        by_cases kk : 1 ≤ kind ∧ kind ≤ 5
        · rw [if_neg (show ¬ ¬ (1 ≤ kind ∧ kind ≤ 5) from fun h => h kk)]
          obtain rfl | rfl | rfl | rfl | rfl : kind = 1 ∨ kind = 2 ∨ kind = 3 ∨ kind = 4 ∨ kind = 5 := by omega
          all_goals by_cases s1 : side = 1 <;> by_cases s2 : side = 2 <;> by_cases hQ : OkQ c f q <;> by_cases hP : OkP b d e p <;> by_cases p0 : p = 0 <;> try omega
          all_goals first | (simp [rules_Entry.j0, rules_Entry.j1, sized1 _ _ _ _ _ _ _ hc, *]; done) | (simp [rules_Entry.j0, rules_Entry.j1, sized1 _ _ _ _ _ _ _ hc, *]; split <;> rfl)
        · rw [if_pos kk, if_neg (by omega), if_neg (by omega), if_neg (by omega), if_neg (by omega)]
          have : ¬ kind = 5 := by omega
          simp [rules_Entry.j0, this]
      · simp [rules_within.f, h1, h2]
    · simp [rules_within.f, h1]
  · simp [hR]

def AV (a b c d e f p q : Int) : Int := if ¬ OkR a b c d e f then 70 else if ¬ OkQ c f q then 74 else if ¬ OkP b d e p then 75 else 0
theorem amend1 (m : Nat) (a b c d e f p q : Int) : rules_Amend.f (m + 6) a b c d e f p q = some (AV a b c d e f p q) := by
  unfold AV rules_Amend.f
  rw [chk m]
  by_cases hR : OkR a b c d e f
  · obtain ⟨hb, hc⟩ := hR.nz
    by_cases hQ : OkQ c f q <;> by_cases hP : OkP b d e p <;> simp [priced1 _ _ _ _ _ _ _ hb, sized1 _ _ _ _ _ _ _ hc, *]
  · simp [hR]
theorem w64 {x : Int} (h0 : -9223372036854775808 ≤ x) (h1 : x ≤ 9223372036854775807) : wrap64 x = x := by unfold wrap64; omega

/-- A number cut to a multiple: by division, and by what is left. -/
theorem cut {p t : Int} (h0 : 0 ≤ p) (h1 : p ≤ 1000000000) (t1 : 1 ≤ t) : wrap64 (wrap64 (p.tdiv t) * t) = p - p.tmod t ∧ 0 ≤ p.tmod t ∧ p.tmod t ≤ p ∧ p.tmod t < t := by
  rw [Int.tdiv_eq_ediv_of_nonneg h0, Int.tmod_eq_emod_of_nonneg h0]
  have hm := Int.emod_nonneg p (show t ≠ 0 by omega)
  have hl := Int.emod_lt_of_pos p (show 0 < t by omega)
  have hd : 0 ≤ p / t := Int.ediv_nonneg h0 (by omega)
  have hle : p / t ≤ p := Int.ediv_le_self t h0
  have he : p / t * t = p - p % t := by have := Int.emod_add_mul_ediv p t; rw [Int.mul_comm] at this; omega
  have hpt : 0 ≤ p / t * t := Int.mul_nonneg hd (by omega)
  rw [w64 (x := p / t) (by omega) (by omega), he, w64 (by omega) (by omega)]
  exact ⟨rfl, hm, by omega, hl⟩

theorem cutup {p t : Int} (h0 : 0 ≤ p) (h1 : p ≤ 1000000000) (t1 : 1 ≤ t) (t2 : t ≤ 1000000000) :
    wrap64 (wrap64 ((wrap64 (wrap64 (p + t) - 1)).tdiv t) * t) = if p.tmod t = 0 then p else p - p.tmod t + t := by
  rw [w64 (x := p + t) (by omega) (by omega), w64 (x := p + t - 1) (by omega) (by omega)]
  have hm := Int.emod_nonneg p (show t ≠ 0 by omega)
  have hl := Int.emod_lt_of_pos p (show 0 < t by omega)
  have hd : 0 ≤ p / t := Int.ediv_nonneg h0 (by omega)
  have hle : p / t ≤ p := Int.ediv_le_self t h0
  have he : t * (p / t) = p - p % t := by have := Int.emod_add_mul_ediv p t; omega
  rw [Int.tdiv_eq_ediv_of_nonneg (by omega), Int.tmod_eq_emod_of_nonneg h0]
  have hq : (p + t - 1) / t = p / t + if p % t = 0 then 0 else 1 := by
    have e1 : p + t - 1 = (p % t + t - 1) + t * (p / t) := by omega
    rw [e1, Int.add_mul_ediv_left _ _ (by omega)]
    split
    · rename_i h; rw [h, Int.ediv_eq_zero_of_lt (by omega) (by omega)]; omega
    · have : (p % t + t - 1) / t = 1 := by
        rw [show p % t + t - 1 = (p % t - 1) + t * 1 by omega, Int.add_mul_ediv_left _ _ (by omega), Int.ediv_eq_zero_of_lt (by omega) (by omega)]; rfl
      rw [this]; omega
  rw [hq]
  split
  · rename_i h
    rw [Int.add_zero, w64 (x := p / t) (by omega) (by omega), Int.mul_comm, he, h, w64 (by omega) (by omega)]; omega
  · rw [w64 (x := p / t + 1) (by omega) (by omega), Int.mul_comm, Int.mul_add, he, w64 (by omega) (by omega)]; omega

theorem mn_eq (a b : Int) : mn a b = min a b := by unfold mn; omega
theorem mx_eq (a b : Int) : mx a b = max a b := by unfold mx; omega


theorem ev0 {a b c d e f cl kind side p q : Int} : EV a b c d e f cl kind side p q = 0 ↔ OkR a b c d e f ∧ (1 ≤ cl ∧ cl ≤ a) ∧ (1 ≤ kind ∧ kind ≤ 5) ∧ (side = 1 ∨ side = 2) ∧ OkQ c f q ∧ ((kind = 2 ∧ p = 0) ∨ (¬ kind = 2 ∧ OkP b d e p)) := by
  unfold EV
  split
  · rename_i h; exact ⟨fun h => by omega, fun h' => absurd h'.1 h⟩
  · split
    · rename_i h; exact ⟨fun h => by omega, fun h' => absurd h'.2.1 h⟩
    · split
      · rename_i h; exact ⟨fun h => by omega, fun h' => absurd h'.2.2.1 h⟩
      · split
        · rename_i h; exact ⟨fun h => by omega, fun h' => absurd h'.2.2.2.1 h⟩
        · split
          · rename_i h; exact ⟨fun h => by omega, fun h' => absurd h'.2.2.2.2.1 h⟩
          · split
            · rename_i h1 h2 h3 h4 h5 h6
              exact ⟨fun _ => ⟨Classical.not_not.1 h1, Classical.not_not.1 h2, Classical.not_not.1 h3, Classical.not_not.1 h4, Classical.not_not.1 h5, h6⟩, fun _ => rfl⟩
            · rename_i h; exact ⟨fun h => by omega, fun h' => absurd h'.2.2.2.2.2 h⟩
theorem av0 {a b c d e f p q : Int} (hR : OkR a b c d e f) (hQ : OkQ c f q) (hP : OkP b d e p) : AV a b c d e f p q = 0 := by
  unfold AV
  rw [if_neg (fun h => h hR), if_neg (fun h => h hQ), if_neg (fun h => h hP)]

theorem works_true : tripwirelaw07_works.f 30 = some true := by decide +kernel

theorem does (a b c d e f cl kind sd p q less client kd : Int) (hs : 0 ≤ sd ∧ sd ≤ 255) : tripwirelaw07_RulesLess.f 30 a b c d e f cl kind sd p q less client kd = some true := by
  unfold tripwirelaw07_RulesLess.f
  rw [works_true, entry1 24]
  simp only [Option.bind_some]
  by_cases h0 : EV a b c d e f cl kind sd p q = 0
  · rw [if_pos h0]
    obtain ⟨hR, hC, hK, hS, hQ, hP⟩ := ev0.1 h0
    obtain ⟨hb, hc⟩ := hR.nz
    have hS' : (3 - sd) % 256 = 1 ∨ (3 - sd) % 256 = 2 := by omega
    obtain ⟨side, hside⟩ : ∃ s, s = (3 - sd) % 256 := ⟨_, rfl⟩
    rw [← hside] at hS' ⊢
    -- the quantity is the one or the other; each fits
    have j3 : ∀ cl' q', (1 ≤ cl' ∧ cl' ≤ a) → OkQ c f q' → tripwirelaw07_RulesLess.j3 27 kd true a b c d e f cl kind sd p q cl' kind side p q' = some true := by
      intro cl' q' hC' hQ'
      have e1 : EV a b c d e f cl' kind side p q' = 0 := ev0.2 ⟨hR, hC', hK, hS', hQ', hP⟩
      simp only [tripwirelaw07_RulesLess.j3]
      rw [entry1 20, e1]
      simp only [Option.bind_some]
      by_cases hk : kind = 2
      · rw [if_pos hk]; simp
      · rw [if_neg hk]
        have hPP : OkP b d e p := by
          rcases hP with h | h
          · exact absurd h.1 hk
          · exact h.2
        have e2 : AV a b c d e f p q' = 0 := av0 hR hQ' hPP
        have e3 : ∀ k', 1 ≤ k' → k' ≤ 5 → ¬ k' = 2 → EV a b c d e f cl' k' side p q' = 0 := fun k' h1 h2 h3 => ev0.2 ⟨hR, hC', ⟨h1, h2⟩, hS', hQ', .inr ⟨h3, hPP⟩⟩
        have j4 : ∀ x, (x = true → 1 ≤ kd ∧ kd ≤ 5 ∧ ¬ kd = 2) → tripwirelaw07_RulesLess.j4 26 kd true 0 x a b c d e f cl' kind side p q' = some true := by
          intro x hx
          simp only [tripwirelaw07_RulesLess.j4]
          cases x with
          | true =>
            obtain ⟨x1, x2, x3⟩ := hx rfl
            rw [if_pos rfl, entry1 19, e3 kd x1 x2 x3, amend1 19, e2]; rfl
          | false => rw [if_neg (by decide), entry1 19, e1, amend1 19, e2]; rfl
        split
        · split
          · exact j4 _ (fun h => ⟨by omega, by omega, by simpa using h⟩)
          · exact j4 _ (fun h => by cases h)
        · exact j4 _ (fun h => by cases h)
    have j1 : ∀ cl', (1 ≤ cl' ∧ cl' ≤ a) → tripwirelaw07_RulesLess.j1 29 less kd true a b c d e f cl kind sd p q cl' kind side p q = some true := by
      intro cl' hC'
      simp only [tripwirelaw07_RulesLess.j1]
      have hQ0 := hQ
      unfold OkQ at hQ0
      by_cases l1 : less ≥ 1
      · rw [if_pos l1]
        by_cases l2 : less < q
        · rw [if_pos l2, if_neg hc]
          simp only [tripwirelaw07_RulesLess.j2]
          by_cases l3 : less.tmod c = 0
          · rw [if_pos (by simpa using l3)]
            exact j3 cl' less hC' ⟨by omega, by omega, l3⟩
          · rw [if_neg (by simpa using l3)]
            exact j3 cl' q hC' hQ
        · rw [if_neg l2]
          simp only [tripwirelaw07_RulesLess.j2]
          exact j3 cl' q hC' hQ
      · rw [if_neg l1]
        simp only [tripwirelaw07_RulesLess.j2]
        exact j3 cl' q hC' hQ
    by_cases c1 : client ≥ 1
    · rw [if_pos c1]
      simp only [tripwirelaw07_RulesLess.j0]
      by_cases c2 : client ≤ a
      · rw [if_pos (by simpa using c2)]; exact j1 client ⟨c1, c2⟩
      · rw [if_neg (by simpa using c2)]; exact j1 cl hC
    · rw [if_neg c1]
      simp only [tripwirelaw07_RulesLess.j0]
      exact j1 cl hC
  · rw [if_neg h0]
end Go.Proofs.Ytiiflgihjnlmcaa.PRulesLess
