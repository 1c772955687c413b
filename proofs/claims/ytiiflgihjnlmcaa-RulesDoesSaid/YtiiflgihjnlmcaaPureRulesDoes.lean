/- RulesDoes, without Go and memory: the printed functions answer true at every input. No condition but the integers' own kinds. -/
import Derived.Test.YtiiflgihjnlmcaaPRulesDoesx
namespace Go.Proofs.Ytiiflgihjnlmcaa.PRulesDoes
open Go.RowKit Go.Proofs.YtiiflgihjnlmcaaW.PrintWords Go.Proofs.YtiiflgihjnlmcaaW.PrintLast Go.Proofs.YtiiflgihjnlmcaaW.PrintMore

def OkR (a b c d e f : Int) : Prop := 1 ≤ a ∧ a ≤ 8 ∧ 1 ≤ b ∧ b ≤ 1000000000 ∧ 1 ≤ c ∧ c ≤ 1000000000 ∧ 1 ≤ d ∧ d ≤ e ∧ e ≤ 1000000000 ∧ d.tmod b = 0 ∧ e.tmod b = 0 ∧ 1 ≤ f ∧ f ≤ 1000000000 ∧ f.tmod c = 0
instance (a b c d e f : Int) : Decidable (OkR a b c d e f) := by unfold OkR; infer_instance

theorem chk (a b c d e f : Int) : rules_Check.f 10 a b c d e f = some (if OkR a b c d e f then 0 else 70) := by
  unfold OkR
  by_cases h1 : 1 ≤ a <;> by_cases h2 : a ≤ 8 <;> by_cases h3 : 1 ≤ b <;> try (simp [rules_Check.f, rules_within.f, rules_Check.j0, *]; done)
  by_cases h4 : b ≤ 1000000000 <;> by_cases h5 : 1 ≤ c <;> by_cases h6 : c ≤ 1000000000 <;> try (simp [rules_Check.f, rules_within.f, rules_Check.j0, *]; done)
  have hb : ¬ b = 0 := by omega
  have hc : ¬ c = 0 := by omega
  by_cases h7 : d < 1
  · simp [rules_Check.f, rules_within.f, rules_Check.j0, rules_Check.j1, rules_whole.f, *]; omega
  by_cases h8 : d > e
  · simp [rules_Check.f, rules_within.f, rules_Check.j0, rules_Check.j1, rules_whole.f, *]; omega
  by_cases h9 : e > 1000000000
  · simp [rules_Check.f, rules_within.f, rules_Check.j0, rules_Check.j1, rules_whole.f, *]; omega
  by_cases h10 : d.tmod b = 0 <;> by_cases h11 : e.tmod b = 0 <;> by_cases h12 : 1 ≤ f <;> by_cases h13 : f ≤ 1000000000 <;> by_cases h14 : f.tmod c = 0 <;> simp [rules_Check.f, rules_within.f, rules_Check.j0, rules_Check.j1, rules_whole.f, *] <;> omega

theorem chk2 (a b c d e f : Int) : tripwireref07_Check.f 10 a b c d e f = some (if OkR a b c d e f then 0 else 70) := by
  unfold OkR
  by_cases h1 : a < 1
  · simp [tripwireref07_Check.f, tripwireref07_Check.j0, h1]; omega
  by_cases h2 : a > 8
  · simp [tripwireref07_Check.f, tripwireref07_Check.j0, h1, h2]; omega
  by_cases h3 : b < 1
  · simp [tripwireref07_Check.f, tripwireref07_Check.j0, h1, h2, h3]; omega
  by_cases h4 : b > 1000000000
  · simp [tripwireref07_Check.f, tripwireref07_Check.j0, h1, h2, h3, h4]; omega
  by_cases h5 : c < 1
  · simp [tripwireref07_Check.f, tripwireref07_Check.j0, h1, h2, h3, h4, h5]; omega
  by_cases h6 : c > 1000000000
  · simp [tripwireref07_Check.f, tripwireref07_Check.j0, h1, h2, h3, h4, h5, h6]; omega
  have hb : ¬ b = 0 := by omega
  have hc : ¬ c = 0 := by omega
  by_cases h7 : d < 1
  · simp [tripwireref07_Check.f, tripwireref07_Check.j0, tripwireref07_Check.j1, *]; omega
  by_cases h8 : d > e
  · simp [tripwireref07_Check.f, tripwireref07_Check.j0, tripwireref07_Check.j1, *]; omega
  by_cases h9 : e > 1000000000
  · simp [tripwireref07_Check.f, tripwireref07_Check.j0, tripwireref07_Check.j1, *]; omega
  by_cases h10 : d.tmod b = 0 <;> by_cases h11 : e.tmod b = 0 <;> by_cases h12 : f < 1 <;> by_cases h13 : f > 1000000000 <;> by_cases h14 : f.tmod c = 0 <;> simp [tripwireref07_Check.f, tripwireref07_Check.j0, tripwireref07_Check.j1, *] <;> omega

def OkQ (c f q : Int) : Prop := 1 ≤ q ∧ q ≤ f ∧ q.tmod c = 0
def OkP (b d e p : Int) : Prop := d ≤ p ∧ p ≤ e ∧ p.tmod b = 0
instance (c f q : Int) : Decidable (OkQ c f q) := by unfold OkQ; infer_instance
instance (b d e p : Int) : Decidable (OkP b d e p) := by unfold OkP; infer_instance

theorem priced1 (a b c d e f p : Int) (hb : ¬ b = 0) : rules_priced.f a b c d e f p = some (decide (OkP b d e p)) := by
  unfold OkP
  by_cases h1 : d ≤ p <;> by_cases h2 : p ≤ e <;> by_cases h3 : p.tmod b = 0 <;> simp [rules_priced.f, rules_within.f, rules_whole.f, *]
theorem sized1 (a b c d e f p : Int) (hb : ¬ c = 0) : rules_sized.f a b c d e f p = some (decide (OkQ c f p)) := by
  unfold OkQ
  by_cases h1 : 1 ≤ p <;> by_cases h2 : p ≤ f <;> by_cases h3 : p.tmod c = 0 <;> simp [rules_sized.f, rules_within.f, rules_whole.f, *]
theorem priced2 (a b c d e f p : Int) (hb : ¬ b = 0) : tripwireref07_Price.f a b c d e f p = some (decide (OkP b d e p)) := by
  unfold OkP
  by_cases h1 : d ≤ p <;> by_cases h2 : p ≤ e <;> by_cases h3 : p.tmod b = 0 <;> simp [tripwireref07_Price.f, *]
theorem sized2 (a b c d e f p : Int) (hb : ¬ c = 0) : tripwireref07_Qty.f a b c d e f p = some (decide (OkQ c f p)) := by
  unfold OkQ
  by_cases h1 : 1 ≤ p <;> by_cases h2 : p ≤ f <;> by_cases h3 : p.tmod c = 0 <;> simp [tripwireref07_Qty.f, *]

def EV (a b c d e f cl kind side p q : Int) : Int :=
  if ¬ OkR a b c d e f then 70 else if ¬ (1 ≤ cl ∧ cl ≤ a) then 73 else if ¬ (1 ≤ kind ∧ kind ≤ 5) then 71 else if ¬ (side = 1 ∨ side = 2) then 72 else if ¬ OkQ c f q then 74
  else if (kind = 2 ∧ p = 0) ∨ (¬ kind = 2 ∧ OkP b d e p) then 0 else 75

theorem OkR.nz {a b c d e f : Int} (h : OkR a b c d e f) : ¬ b = 0 ∧ ¬ c = 0 := by unfold OkR at h; omega

theorem entry1 (a b c d e f cl kind side p q : Int) : rules_Entry.f 10 a b c d e f cl kind side p q = some (EV a b c d e f cl kind side p q) := by
  unfold EV rules_Entry.f
  rw [chk]
  by_cases hR : OkR a b c d e f
  · obtain ⟨hb, hc⟩ := hR.nz
    rw [if_pos hR, if_neg (show ¬ ¬ OkR a b c d e f from fun h => h hR)]
    simp only [Option.bind_some, if_true]
    by_cases h1 : 1 ≤ cl
    · by_cases h2 : cl ≤ a
      · rw [if_neg (show ¬ ¬ (1 ≤ cl ∧ cl ≤ a) from fun h => h ⟨h1, h2⟩)]
        simp only [rules_within.f, priced1 _ _ _ _ _ _ _ hb, Option.bind_some, h1, h2, if_true, ge_iff_le, decide_true]
        by_cases kk : 1 ≤ kind ∧ kind ≤ 5
        · rw [if_neg (show ¬ ¬ (1 ≤ kind ∧ kind ≤ 5) from fun h => h kk)]
          obtain rfl | rfl | rfl | rfl | rfl : kind = 1 ∨ kind = 2 ∨ kind = 3 ∨ kind = 4 ∨ kind = 5 := by omega
          all_goals by_cases s1 : side = 1 <;> by_cases s2 : side = 2 <;> by_cases hQ : OkQ c f q <;> by_cases hP : OkP b d e p <;> by_cases p0 : p = 0 <;> try omega
          all_goals first | (simp [rules_Entry.j0, rules_Entry.j1, sized1 _ _ _ _ _ _ _ hc, *]; done) | (simp [rules_Entry.j0, rules_Entry.j1, sized1 _ _ _ _ _ _ _ hc, *]; split <;> rfl)
        · rw [if_pos kk, if_neg (by omega), if_neg (by omega), if_neg (by omega), if_neg (by omega)]
          have : ¬ kind = 5 := by omega
          simp [rules_Entry.j0, this]
      · simp [rules_within.f, h1, h2]
    · simp [rules_within.f, h1]
  · simp [hR]

theorem entry2 (a b c d e f cl kind side p q : Int) : tripwireref07_Entry.f 10 a b c d e f cl kind side p q = some (EV a b c d e f cl kind side p q) := by
  unfold EV tripwireref07_Entry.f
  rw [chk2]
  by_cases hR : OkR a b c d e f
  · obtain ⟨hb, hc⟩ := hR.nz
    rw [if_pos hR, if_neg (show ¬ ¬ OkR a b c d e f from fun h => h hR)]
    simp only [Option.bind_some, if_true, sized2 _ _ _ _ _ _ _ hc, priced2 _ _ _ _ _ _ _ hb]
    by_cases h1 : cl < 1
    · have : ¬ 1 ≤ cl := by omega
      simp [tripwireref07_Entry.j0, h1, this]
    · by_cases h2 : cl > a
      · have : ¬ cl ≤ a := by omega
        simp [tripwireref07_Entry.j0, h1, h2, this]
      · rw [if_neg h1, if_neg (show ¬ ¬ (1 ≤ cl ∧ cl ≤ a) by omega)]
        by_cases k1 : kind < 1
        · have : ¬ (1 ≤ kind ∧ kind ≤ 5) := by omega
          simp [tripwireref07_Entry.j0, tripwireref07_Entry.j1, h2, k1, this]
        · by_cases k2 : kind > 5
          · have : ¬ (1 ≤ kind ∧ kind ≤ 5) := by omega
            simp [tripwireref07_Entry.j0, tripwireref07_Entry.j1, h2, k1, k2, this]
          · rw [if_neg (show ¬ ¬ (1 ≤ kind ∧ kind ≤ 5) by omega)]
            by_cases s1 : side = 1 <;> by_cases s2 : side = 2 <;> by_cases hQ : OkQ c f q <;> by_cases hP : OkP b d e p <;> by_cases p0 : p = 0 <;> by_cases kk : kind = 2 <;> try omega
            all_goals first | (simp [tripwireref07_Entry.j0, tripwireref07_Entry.j1, tripwireref07_Entry.j2, *]; done) | (simp [tripwireref07_Entry.j0, tripwireref07_Entry.j1, tripwireref07_Entry.j2, *]; split <;> rfl)
  · simp [hR]

def AV (a b c d e f p q : Int) : Int := if ¬ OkR a b c d e f then 70 else if ¬ OkQ c f q then 74 else if ¬ OkP b d e p then 75 else 0
theorem amend1 (a b c d e f p q : Int) : rules_Amend.f 10 a b c d e f p q = some (AV a b c d e f p q) := by
  unfold AV rules_Amend.f
  rw [chk]
  by_cases hR : OkR a b c d e f
  · obtain ⟨hb, hc⟩ := hR.nz
    by_cases hQ : OkQ c f q <;> by_cases hP : OkP b d e p <;> simp [priced1 _ _ _ _ _ _ _ hb, sized1 _ _ _ _ _ _ _ hc, *]
  · simp [hR]
theorem amend2 (a b c d e f p q : Int) : tripwireref07_Amend.f 10 a b c d e f p q = some (AV a b c d e f p q) := by
  unfold AV tripwireref07_Amend.f
  rw [chk2]
  by_cases hR : OkR a b c d e f
  · obtain ⟨hb, hc⟩ := hR.nz
    by_cases hQ : OkQ c f q <;> by_cases hP : OkP b d e p <;> simp [priced2 _ _ _ _ _ _ _ hb, sized2 _ _ _ _ _ _ _ hc, *]
  · simp [hR]

theorem w64 {x : Int} (h0 : -9223372036854775808 ≤ x) (h1 : x ≤ 9223372036854775807) : wrap64 x = x := by unfold wrap64; omega

/-- A number cut to a multiple: by division, and by what is left. -/
theorem cut {p t : Int} (h0 : 0 ≤ p) (h1 : p ≤ 1000000000) (t1 : 1 ≤ t) : wrap64 (wrap64 (p.tdiv t) * t) = p - p.tmod t ∧ 0 ≤ p.tmod t ∧ p.tmod t ≤ p ∧ p.tmod t < t := by
  rw [Int.tdiv_eq_ediv_of_nonneg h0, Int.tmod_eq_emod_of_nonneg h0]
  have hm := Int.emod_nonneg p (show t ≠ 0 by omega)
  have hl := Int.emod_lt_of_pos p (show 0 < t by omega)
  have hd : 0 ≤ p / t := Int.ediv_nonneg h0 (by omega)
  have hle : p / t ≤ p := Int.ediv_le_self t h0
  have he : p / t * t = p - p % t := by have := Int.emod_add_mul_ediv p t; rw [Int.mul_comm] at this; omega
  have hpt : 0 ≤ p / t * t := Int.mul_nonneg hd (by omega)
  rw [w64 (x := p / t) (by omega) (by omega), he, w64 (by omega) (by omega)]
  exact ⟨rfl, hm, by omega, hl⟩

theorem cutup {p t : Int} (h0 : 0 ≤ p) (h1 : p ≤ 1000000000) (t1 : 1 ≤ t) (t2 : t ≤ 1000000000) :
    wrap64 (wrap64 ((wrap64 (wrap64 (p + t) - 1)).tdiv t) * t) = if p.tmod t = 0 then p else p - p.tmod t + t := by
  rw [w64 (x := p + t) (by omega) (by omega), w64 (x := p + t - 1) (by omega) (by omega)]
  have hm := Int.emod_nonneg p (show t ≠ 0 by omega)
  have hl := Int.emod_lt_of_pos p (show 0 < t by omega)
  have hd : 0 ≤ p / t := Int.ediv_nonneg h0 (by omega)
  have hle : p / t ≤ p := Int.ediv_le_self t h0
  have he : t * (p / t) = p - p % t := by have := Int.emod_add_mul_ediv p t; omega
  rw [Int.tdiv_eq_ediv_of_nonneg (by omega), Int.tmod_eq_emod_of_nonneg h0]
  have hq : (p + t - 1) / t = p / t + if p % t = 0 then 0 else 1 := by
    have e1 : p + t - 1 = (p % t + t - 1) + t * (p / t) := by omega
    rw [e1, Int.add_mul_ediv_left _ _ (by omega)]
    split
    · rename_i h; rw [h, Int.ediv_eq_zero_of_lt (by omega) (by omega)]; omega
    · have : (p % t + t - 1) / t = 1 := by
        rw [show p % t + t - 1 = (p % t - 1) + t * 1 by omega, Int.add_mul_ediv_left _ _ (by omega), Int.ediv_eq_zero_of_lt (by omega) (by omega)]; rfl
      rw [this]; omega
  rw [hq]
  split
  · rename_i h
    rw [Int.add_zero, w64 (x := p / t) (by omega) (by omega), Int.mul_comm, he, h, w64 (by omega) (by omega)]; omega
  · rw [w64 (x := p / t + 1) (by omega) (by omega), Int.mul_comm, Int.mul_add, he, w64 (by omega) (by omega)]; omega

theorem mn_eq (a b : Int) : mn a b = min a b := by unfold mn; omega
theorem mx_eq (a b : Int) : mx a b = max a b := by unfold mx; omega

theorem round12 (a b c d e f side p : Int) : rules_Round.f 10 a b c d e f side p = tripwireref07_Round.f 10 a b c d e f side p ∧ ∃ r, rules_Round.f 10 a b c d e f side p = some r := by
  unfold rules_Round.f tripwireref07_Round.f
  rw [chk, chk2]
  by_cases hR : OkR a b c d e f
  · obtain ⟨hb, hc⟩ := hR.nz
    have hR' := hR
    unfold OkR at hR'
    simp only [if_pos hR, Option.bind_some, if_true]
    by_cases s1 : side = 1
    · by_cases hp : d ≤ p
      · obtain ⟨e1, e2, e3, e4⟩ := cut (p := mn p e) (t := b) (by rw [mn_eq]; omega) (by rw [mn_eq]; omega) (by omega)
        have hm : mn p e ≤ 1000000000 ∧ 0 ≤ mn p e := by rw [mn_eq]; omega
        have : ¬ p < d := by omega
        rw [if_pos s1, if_pos s1, if_neg this, if_neg hb]
        simp only [rules_Round.j0, ge_iff_le, hp, decide_true, if_true, if_neg hb]
        rw [e1, w64 (by omega) (by omega)]
        exact ⟨rfl, _, rfl⟩
      · have : p < d := by omega
        simp [rules_Round.j0, s1, hp, this]
    · by_cases s2 : side = 2
      · have hs : ¬ (2 : Int) = 1 := by decide
        subst s2
        by_cases hp : p ≤ e
        · have hx : 0 ≤ mx p d ∧ mx p d ≤ 1000000000 := by rw [mx_eq]; omega
          have e1 := cutup (p := mx p d) (t := b) hx.1 hx.2 (by omega) (by omega)
          obtain ⟨_, e2, e3, e4⟩ := cut (p := mx p d) (t := b) hx.1 hx.2 (by omega)
          have : ¬ p > e := by omega
          simp only [rules_Round.j0, hs, if_false, if_true, this, hp, if_neg hb, Bool.false_eq_true]
          rw [e1, w64 (x := mx p d - (mx p d).tmod b) (by omega) (by omega), w64 (by omega) (by omega)]
          split <;> exact ⟨rfl, _, rfl⟩
        · have : p > e := by omega
          simp [rules_Round.j0, hp, this]
      · simp [rules_Round.j0, s1, s2]
  · simp [hR]

theorem works_true : tripwirelaw07_works.f 10 = some true := by decide +kernel

theorem does (a b c d e f cl kind sd p q side price : Int) : tripwirelaw07_RulesDoes.f 10 a b c d e f cl kind sd p q side price = some true := by
  unfold tripwirelaw07_RulesDoes.f
  obtain ⟨r1, r, r2⟩ := round12 a b c d e f side price
  rw [works_true, chk, chk2, entry1, entry2, amend1, amend2, ← r1, r2]
  simp

end Go.Proofs.Ytiiflgihjnlmcaa.PRulesDoes
