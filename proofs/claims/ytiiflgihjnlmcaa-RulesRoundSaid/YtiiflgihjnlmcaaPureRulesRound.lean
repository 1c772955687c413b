/- RulesRound, without Go and memory: the printed functions answer true at every input. No condition but the integers' own kinds. -/
import Derived.Test.YtiiflgihjnlmcaaPRulesRoundx
namespace Go.Proofs.Ytiiflgihjnlmcaa.PRulesRound
open Go.RowKit Go.Proofs.YtiiflgihjnlmcaaW.PrintWords Go.Proofs.YtiiflgihjnlmcaaW.PrintLast Go.Proofs.YtiiflgihjnlmcaaW.PrintMore
def OkR (a b c d e f : Int) : Prop := 1 ≤ a ∧ a ≤ 8 ∧ 1 ≤ b ∧ b ≤ 1000000000 ∧ 1 ≤ c ∧ c ≤ 1000000000 ∧ 1 ≤ d ∧ d ≤ e ∧ e ≤ 1000000000 ∧ d.tmod b = 0 ∧ e.tmod b = 0 ∧ 1 ≤ f ∧ f ≤ 1000000000 ∧ f.tmod c = 0
instance (a b c d e f : Int) : Decidable (OkR a b c d e f) := by unfold OkR; infer_instance

theorem chk (m : Nat) (a b c d e f : Int) : rules_Check.f (m + 6) a b c d e f = some (if OkR a b c d e f then 0 else 70) := by
  unfold OkR
  by_cases h1 : 1 ≤ a <;> by_cases h2 : a ≤ 8 <;> by_cases h3 : 1 ≤ b <;> try (simp [rules_Check.f, rules_within.f, rules_Check.j0, *]; done)
  by_cases h4 : b ≤ 1000000000 <;> by_cases h5 : 1 ≤ c <;> by_cases h6 : c ≤ 1000000000 <;> try (simp [rules_Check.f, rules_within.f, rules_Check.j0, *]; done)
  have hb : ¬ b = 0 := by omega
  have hc : ¬ c = 0 := by omega
  by_cases h7 : d < 1
  · simp [rules_Check.f, rules_within.f, rules_Check.j0, rules_Check.j1, rules_whole.f, *]; omega
  by_cases h8 : d > e
  · simp [rules_Check.f, rules_within.f, rules_Check.j0, rules_Check.j1, rules_whole.f, *]; omega
  by_cases h9 : e > 1000000000
  · simp [rules_Check.f, rules_within.f, rules_Check.j0, rules_Check.j1, rules_whole.f, *]; omega
  by_cases h10 : d.tmod b = 0 <;> by_cases h11 : e.tmod b = 0 <;> by_cases h12 : 1 ≤ f <;> by_cases h13 : f ≤ 1000000000 <;> by_cases h14 : f.tmod c = 0 <;> simp [rules_Check.f, rules_within.f, rules_Check.j0, rules_Check.j1, rules_whole.f, *] <;> omega

def OkQ (c f q : Int) : Prop := 1 ≤ q ∧ q ≤ f ∧ q.tmod c = 0
def OkP (b d e p : Int) : Prop := d ≤ p ∧ p ≤ e ∧ p.tmod b = 0
instance (c f q : Int) : Decidable (OkQ c f q) := by unfold OkQ; infer_instance
instance (b d e p : Int) : Decidable (OkP b d e p) := by unfold OkP; infer_instance

theorem priced1 (a b c d e f p : Int) (hb : ¬ b = 0) : rules_priced.f a b c d e f p = some (decide (OkP b d e p)) := by
  unfold OkP
  by_cases h1 : d ≤ p <;> by_cases h2 : p ≤ e <;> by_cases h3 : p.tmod b = 0 <;> simp [rules_priced.f, rules_within.f, rules_whole.f, *]
theorem sized1 (a b c d e f p : Int) (hb : ¬ c = 0) : rules_sized.f a b c d e f p = some (decide (OkQ c f p)) := by
  unfold OkQ
  by_cases h1 : 1 ≤ p <;> by_cases h2 : p ≤ f <;> by_cases h3 : p.tmod c = 0 <;> simp [rules_sized.f, rules_within.f, rules_whole.f, *]
def EV (a b c d e f cl kind side p q : Int) : Int :=
  if ¬ OkR a b c d e f then 70 else if ¬ (1 ≤ cl ∧ cl ≤ a) then 73 else if ¬ (1 ≤ kind ∧ kind ≤ 5) then 71 else if ¬ (side = 1 ∨ side = 2) then 72 else if ¬ OkQ c f q then 74
  else if (kind = 2 ∧ p = 0) ∨ (¬ kind = 2 ∧ OkP b d e p) then 0 else 75

theorem OkR.nz {a b c d e f : Int} (h : OkR a b c d e f) : ¬ b = 0 ∧ ¬ c = 0 := by unfold OkR at h; omega

theorem entry1 (m : Nat) (a b c d e f cl kind side p q : Int) : rules_Entry.f (m + 6) a b c d e f cl kind side p q = some (EV a b c d e f cl kind side p q) := by
  unfold EV rules_Entry.f
  rw [chk m]
  by_cases hR : OkR a b c d e f
  · obtain ⟨hb, hc⟩ := hR.nz
    rw [if_pos hR, if_neg (show ¬ ¬ OkR a b c d e f from fun h => h hR)]
    simp only [Option.bind_some, if_true]
    by_cases h1 : 1 ≤ cl
    · by_cases h2 : cl ≤ a
      · rw [if_neg (show ¬ ¬ (1 ≤ cl ∧ cl ≤ a) from fun h => h ⟨h1, h2⟩)]
        simp only [rules_within.f, priced1 _ _ _ _ _ _ _ hb, Option.bind_some, h1, h2, if_true, ge_iff_le, decide_true]
        by_cases kk : 1 ≤ kind ∧ kind ≤ 5
        · rw [if_neg (show ¬ ¬ (1 ≤ kind ∧ kind ≤ 5) from fun h => h kk)]
          obtain rfl | rfl | rfl | rfl | rfl : kind = 1 ∨ kind = 2 ∨ kind = 3 ∨ kind = 4 ∨ kind = 5 := by omega
          all_goals by_cases s1 : side = 1 <;> by_cases s2 : side = 2 <;> by_cases hQ : OkQ c f q <;> by_cases hP : OkP b d e p <;> by_cases p0 : p = 0 <;> try omega
          all_goals first | (simp [rules_Entry.j0, rules_Entry.j1, sized1 _ _ _ _ _ _ _ hc, *]; done) | (simp [rules_Entry.j0, rules_Entry.j1, sized1 _ _ _ _ _ _ _ hc, *]; split <;> rfl)
        · rw [if_pos kk, if_neg (by omega), if_neg (by omega), if_neg (by omega), if_neg (by omega)]
          have : ¬ kind = 5 := by omega
          simp [rules_Entry.j0, this]
      · simp [rules_within.f, h1, h2]
    · simp [rules_within.f, h1]
  · simp [hR]

def AV (a b c d e f p q : Int) : Int := if ¬ OkR a b c d e f then 70 else if ¬ OkQ c f q then 74 else if ¬ OkP b d e p then 75 else 0
theorem amend1 (m : Nat) (a b c d e f p q : Int) : rules_Amend.f (m + 6) a b c d e f p q = some (AV a b c d e f p q) := by
  unfold AV rules_Amend.f
  rw [chk m]
  by_cases hR : OkR a b c d e f
  · obtain ⟨hb, hc⟩ := hR.nz
    by_cases hQ : OkQ c f q <;> by_cases hP : OkP b d e p <;> simp [priced1 _ _ _ _ _ _ _ hb, sized1 _ _ _ _ _ _ _ hc, *]
  · simp [hR]
theorem w64 {x : Int} (h0 : -9223372036854775808 ≤ x) (h1 : x ≤ 9223372036854775807) : wrap64 x = x := by unfold wrap64; omega

/-- A number cut to a multiple: by division, and by what is left. -/
theorem cut {p t : Int} (h0 : 0 ≤ p) (h1 : p ≤ 1000000000) (t1 : 1 ≤ t) : wrap64 (wrap64 (p.tdiv t) * t) = p - p.tmod t ∧ 0 ≤ p.tmod t ∧ p.tmod t ≤ p ∧ p.tmod t < t := by
  rw [Int.tdiv_eq_ediv_of_nonneg h0, Int.tmod_eq_emod_of_nonneg h0]
  have hm := Int.emod_nonneg p (show t ≠ 0 by omega)
  have hl := Int.emod_lt_of_pos p (show 0 < t by omega)
  have hd : 0 ≤ p / t := Int.ediv_nonneg h0 (by omega)
  have hle : p / t ≤ p := Int.ediv_le_self t h0
  have he : p / t * t = p - p % t := by have := Int.emod_add_mul_ediv p t; rw [Int.mul_comm] at this; omega
  have hpt : 0 ≤ p / t * t := Int.mul_nonneg hd (by omega)
  rw [w64 (x := p / t) (by omega) (by omega), he, w64 (by omega) (by omega)]
  exact ⟨rfl, hm, by omega, hl⟩

theorem cutup {p t : Int} (h0 : 0 ≤ p) (h1 : p ≤ 1000000000) (t1 : 1 ≤ t) (t2 : t ≤ 1000000000) :
    wrap64 (wrap64 ((wrap64 (wrap64 (p + t) - 1)).tdiv t) * t) = if p.tmod t = 0 then p else p - p.tmod t + t := by
  rw [w64 (x := p + t) (by omega) (by omega), w64 (x := p + t - 1) (by omega) (by omega)]
  have hm := Int.emod_nonneg p (show t ≠ 0 by omega)
  have hl := Int.emod_lt_of_pos p (show 0 < t by omega)
  have hd : 0 ≤ p / t := Int.ediv_nonneg h0 (by omega)
  have hle : p / t ≤ p := Int.ediv_le_self t h0
  have he : t * (p / t) = p - p % t := by have := Int.emod_add_mul_ediv p t; omega
  rw [Int.tdiv_eq_ediv_of_nonneg (by omega), Int.tmod_eq_emod_of_nonneg h0]
  have hq : (p + t - 1) / t = p / t + if p % t = 0 then 0 else 1 := by
    have e1 : p + t - 1 = (p % t + t - 1) + t * (p / t) := by omega
    rw [e1, Int.add_mul_ediv_left _ _ (by omega)]
    split
    · rename_i h; rw [h, Int.ediv_eq_zero_of_lt (by omega) (by omega)]; omega
    · have : (p % t + t - 1) / t = 1 := by
        rw [show p % t + t - 1 = (p % t - 1) + t * 1 by omega, Int.add_mul_ediv_left _ _ (by omega), Int.ediv_eq_zero_of_lt (by omega) (by omega)]; rfl
      rw [this]; omega
  rw [hq]
  split
  · rename_i h
    rw [Int.add_zero, w64 (x := p / t) (by omega) (by omega), Int.mul_comm, he, h, w64 (by omega) (by omega)]; omega
  · rw [w64 (x := p / t + 1) (by omega) (by omega), Int.mul_comm, Int.mul_add, he, w64 (by omega) (by omega)]; omega

theorem mn_eq (a b : Int) : mn a b = min a b := by unfold mn; omega
theorem mx_eq (a b : Int) : mx a b = max a b := by unfold mx; omega


theorem ev0 {a b c d e f cl kind side p q : Int} : EV a b c d e f cl kind side p q = 0 ↔ OkR a b c d e f ∧ (1 ≤ cl ∧ cl ≤ a) ∧ (1 ≤ kind ∧ kind ≤ 5) ∧ (side = 1 ∨ side = 2) ∧ OkQ c f q ∧ ((kind = 2 ∧ p = 0) ∨ (¬ kind = 2 ∧ OkP b d e p)) := by
  unfold EV
  split
  · rename_i h; exact ⟨fun h => by omega, fun h' => absurd h'.1 h⟩
  · split
    · rename_i h; exact ⟨fun h => by omega, fun h' => absurd h'.2.1 h⟩
    · split
      · rename_i h; exact ⟨fun h => by omega, fun h' => absurd h'.2.2.1 h⟩
      · split
        · rename_i h; exact ⟨fun h => by omega, fun h' => absurd h'.2.2.2.1 h⟩
        · split
          · rename_i h; exact ⟨fun h => by omega, fun h' => absurd h'.2.2.2.2.1 h⟩
          · split
            · rename_i h1 h2 h3 h4 h5 h6
              exact ⟨fun _ => ⟨Classical.not_not.1 h1, Classical.not_not.1 h2, Classical.not_not.1 h3, Classical.not_not.1 h4, Classical.not_not.1 h5, h6⟩, fun _ => rfl⟩
            · rename_i h; exact ⟨fun h => by omega, fun h' => absurd h'.2.2.2.2.2 h⟩
theorem av0 {a b c d e f p q : Int} (hR : OkR a b c d e f) (hQ : OkQ c f q) (hP : OkP b d e p) : AV a b c d e f p q = 0 := by
  unfold AV
  rw [if_neg (fun h => h hR), if_neg (fun h => h hQ), if_neg (fun h => h hP)]

def RV (a b c d e f side p : Int) : Int :=
  if ¬ OkR a b c d e f then 0 else if side = 1 then (if d ≤ p then min p e - (min p e).tmod b else 0)
  else if side = 2 then (if p ≤ e then (if (max p d).tmod b = 0 then max p d else max p d - (max p d).tmod b + b) else 0) else 0

theorem round1 (m : Nat) (a b c d e f side p : Int) : rules_Round.f (m + 6) a b c d e f side p = some (RV a b c d e f side p) := by
  unfold rules_Round.f RV
  rw [chk m]
  by_cases hR : OkR a b c d e f
  · obtain ⟨hb, hc⟩ := hR.nz
    have hR' := hR
    unfold OkR at hR'
    simp only [if_pos hR, Option.bind_some, if_true]
    rw [if_neg (show ¬ ¬ OkR a b c d e f from fun h => h hR)]
    by_cases s1 : side = 1
    · by_cases hp : d ≤ p
      · obtain ⟨e1, e2, e3, e4⟩ := cut (p := mn p e) (t := b) (by rw [mn_eq]; omega) (by rw [mn_eq]; omega) (by omega)
        rw [if_pos s1, if_pos s1, if_pos hp]
        simp only [rules_Round.j0, ge_iff_le, hp, decide_true, if_true, if_neg hb]
        rw [e1, mn_eq]
      · simp [rules_Round.j0, s1, hp]
    · by_cases s2 : side = 2
      · have hs : ¬ (2 : Int) = 1 := by decide
        subst s2
        by_cases hp : p ≤ e
        · have hx : 0 ≤ mx p d ∧ mx p d ≤ 1000000000 := by rw [mx_eq]; omega
          have e1 := cutup (p := mx p d) (t := b) hx.1 hx.2 (by omega) (by omega)
          simp only [rules_Round.j0, hs, if_false, if_true, hp, if_neg hb, Bool.false_eq_true]
          rw [e1, mx_eq]
        · simp [rules_Round.j0, hp]
      · simp [rules_Round.j0, s1, s2]
  · simp [hR]

theorem works_true : tripwirelaw07_works.f 30 = some true := by decide +kernel

theorem step {b x y : Int} (hb : 0 < b) (hx : b ∣ x) (hy : b ∣ y) (h : y < x) : y + b ≤ x := by
  have := Int.le_of_dvd (by omega) (Int.dvd_sub hx hy)
  omega
theorem dv {b x : Int} (h : x.tmod b = 0) : b ∣ x := Int.dvd_of_tmod_eq_zero h
theorem dv' {b x : Int} (h : b ∣ x) : x.tmod b = 0 := Int.tmod_eq_zero_of_dvd h
theorem dfl (b x : Int) : b ∣ x - x.tmod b := by
  have := Int.tmod_add_mul_tdiv x b
  exact ⟨x.tdiv b, by omega⟩
theorem tm {b x : Int} (hb : 0 < b) (hx : 0 ≤ x) : 0 ≤ x.tmod b ∧ x.tmod b < b := by
  rw [Int.tmod_eq_emod_of_nonneg hx]
  exact ⟨Int.emod_nonneg _ (by omega), Int.emod_lt_of_pos _ hb⟩

/-- What the law needs of a rounded price. -/
theorem rv_law {a b c d e f side price : Int} (hR : OkR a b c d e f) (hs : side = 1 ∨ side = 2) :
    (∀ other, OkP b d e other → ¬ (side = 1 ∧ other ≤ price ∧ other > RV a b c d e f side price) ∧ ¬ (side = 2 ∧ other ≥ price ∧ (other < RV a b c d e f side price ∨ RV a b c d e f side price = 0))) ∧
    (¬ RV a b c d e f side price = 0 → OkP b d e (RV a b c d e f side price) ∧ OkQ c f c ∧ RV a b c d e f side (RV a b c d e f side price) = RV a b c d e f side price ∧
      (side = 1 → RV a b c d e f side price ≤ price) ∧ (side = 2 → RV a b c d e f side price ≥ price)) := by
  have hR' := hR
  obtain ⟨_, _, b1, b2, c1, c2, d1, d2, e1, db, eb, f1, f2, fc⟩ := hR'
  have hcq : OkQ c f c := ⟨c1, by
    have := step (show 0 < c by omega) (dv fc) (Int.dvd_zero c) (by omega); omega, dv' (Int.dvd_refl c)⟩
  have hRR : ¬ ¬ OkR a b c d e f := fun h => h hR
  have rv1 : ∀ p, RV a b c d e f 1 p = if d ≤ p then min p e - (min p e).tmod b else 0 := fun p => by unfold RV; rw [if_neg hRR, if_pos rfl]
  have rv2 : ∀ p, RV a b c d e f 2 p = if p ≤ e then (if (max p d).tmod b = 0 then max p d else max p d - (max p d).tmod b + b) else 0 := fun p => by unfold RV; rw [if_neg hRR, if_neg (by decide), if_pos rfl]
  rcases hs with rfl | rfl
  · rw [rv1]
    by_cases hp : d ≤ price
    · rw [if_pos hp]
      obtain ⟨q, hq⟩ : ∃ q, q = min price e := ⟨_, rfl⟩
      rw [← hq]
      have hq1 : q ≤ price ∧ q ≤ e ∧ d ≤ q ∧ (q = price ∨ q = e) := by omega
      obtain ⟨t1, t2⟩ := tm (b := b) (x := q) (by omega) (by omega)
      have hv := dfl b q
      have hlo : d ≤ q - q.tmod b := by
        by_cases hlt : q - q.tmod b < d
        · have := step (show 0 < b by omega) (dv db) hv hlt; omega
        · omega
      have hok : OkP b d e (q - q.tmod b) := ⟨hlo, by omega, dv' hv⟩
      refine ⟨fun other ho => ⟨fun ⟨_, h1, h2⟩ => ?_, fun h => by omega⟩, fun _ => ⟨hok, hcq, ?_, fun _ => by omega, fun h => by omega⟩⟩
      · obtain ⟨o1, o2, o3⟩ := ho
        have := step (show 0 < b by omega) (dv o3) hv (by omega)
        omega
      · rw [rv1, if_pos hlo, show min (q - q.tmod b) e = q - q.tmod b by omega, dv' hv]; omega
    · rw [if_neg hp]
      refine ⟨fun other ho => ⟨fun ⟨_, h1, h2⟩ => ?_, fun h => by omega⟩, fun h => absurd rfl h⟩
      have := ho.1
      omega
  · rw [rv2]
    by_cases hp : price ≤ e
    · rw [if_pos hp]
      obtain ⟨q, hq⟩ : ∃ q, q = max price d := ⟨_, rfl⟩
      rw [← hq]
      have hq1 : price ≤ q ∧ d ≤ q ∧ q ≤ e ∧ (q = price ∨ q = d) := by omega
      obtain ⟨t1, t2⟩ := tm (b := b) (x := q) (by omega) (by omega)
      obtain ⟨r, hr⟩ : ∃ r, r = if q.tmod b = 0 then q else q - q.tmod b + b := ⟨_, rfl⟩
      rw [← hr]
      have hv : b ∣ r := by
        rw [hr]; split
        · exact dv (by assumption)
        · exact Int.dvd_add (dfl b q) (Int.dvd_refl b)
      have hr1 : q ≤ r ∧ r < q + b := by
        rw [hr]; split <;> omega
      have hhi : r ≤ e := by
        by_cases hlt : e < r
        · have := step (show 0 < b by omega) hv (dv eb) hlt; omega
        · omega
      have hok : OkP b d e r := ⟨by omega, hhi, dv' hv⟩
      refine ⟨fun other ho => ⟨fun h => by omega, fun ⟨_, h1, h2⟩ => ?_⟩, fun _ => ⟨hok, hcq, ?_, fun h => by omega, fun _ => by omega⟩⟩
      · obtain ⟨o1, o2, o3⟩ := ho
        rcases h2 with h2 | h2
        · have := step (show 0 < b by omega) hv (dv o3) (by omega)
          omega
        · omega
      · rw [rv2, if_pos hhi, show max r d = r by omega, if_pos (dv' hv)]
    · rw [if_neg hp]
      refine ⟨fun other ho => ⟨fun h => by omega, fun ⟨_, h1, h2⟩ => ?_⟩, fun h => absurd rfl h⟩
      have := ho.2.1
      omega

theorem rv0 {a b c d e f side p : Int} (hR : ¬ OkR a b c d e f) : RV a b c d e f side p = 0 := by unfold RV; rw [if_pos hR]

theorem does (a b c d e f : Int) (sell : Bool) (price other : Int) : tripwirelaw07_RulesRound.f 30 a b c d e f sell price other = some true := by
  unfold tripwirelaw07_RulesRound.f
  rw [works_true, chk 24]
  simp only [Option.bind_some]
  by_cases hR : OkR a b c d e f
  · simp only [if_pos hR, if_true]
    have go : ∀ side : Int, (sell = true ∧ side = 2 ∨ sell = false ∧ side = 1) → tripwirelaw07_RulesRound.j0 30 sell price other true side a b c d e f = some true := by
      intro side hside
      have hs : side = 1 ∨ side = 2 := by rcases hside with h | h <;> omega
      obtain ⟨L1, L2⟩ := rv_law (price := price) hR hs
      obtain ⟨v, hv⟩ : ∃ v, v = RV a b c d e f side price := ⟨_, rfl⟩
      rw [← hv] at L1 L2
      have hQf : OkQ c f f := by
        obtain ⟨_, _, b1, b2, c1, c2, d1, d2, e1, db, eb, f1, f2, fc⟩ := hR
        exact ⟨f1, Int.le_refl f, fc⟩
      have h1a : (1 : Int) ≤ 1 ∧ 1 ≤ a := by unfold OkR at hR; omega
      have j2 : tripwirelaw07_RulesRound.j2 28 sell price true side v false a b c d e f = some true := by
        simp only [tripwirelaw07_RulesRound.j2, Bool.false_eq_true, if_false]
        by_cases h0 : v = 0
        · rw [if_pos h0]
        · rw [if_neg h0]
          obtain ⟨hok, hcq, hrr, hbuy, hsell⟩ := L2 h0
          have e1 : EV a b c d e f 1 5 side v c = 0 := ev0.2 ⟨hR, h1a, by decide, hs, hcq, .inr ⟨by decide, hok⟩⟩
          rw [entry1 21, e1, round1 21, hrr]
          simp only [Option.bind_some, if_true]
          rcases hside with ⟨rfl, h⟩ | ⟨rfl, h⟩
          · have := hsell h; simp [this]
          · have := hbuy h; simp [this]
      have j1 : ∀ x, (x = true → ¬ OkP b d e other) → tripwirelaw07_RulesRound.j1 29 sell price other true side v x a b c d e f = some true := by
        intro x hx
        simp only [tripwirelaw07_RulesRound.j1]
        rw [entry1 22]
        simp only [Option.bind_some]
        cases x with
        | true =>
          have hn : ¬ EV a b c d e f 1 1 side other f = 0 := by
            intro h
            obtain ⟨_, _, _, _, _, h⟩ := ev0.1 h
            rcases h with h | h
            · omega
            · exact hx rfl h.2
          rw [if_pos rfl, show (EV a b c d e f 1 1 side other f == 0) = false by simpa using hn]
          exact j2
        | false => rw [if_neg (by decide)]; exact j2
      simp only [tripwirelaw07_RulesRound.j0]
      rw [round1 23, ← hv]
      simp only [Option.bind_some]
      rcases hside with ⟨rfl, h⟩ | ⟨rfl, h⟩
      · rw [if_pos rfl]
        split
        · split
          · exact j1 _ fun _ ho => (L1 other ho).2 ⟨h, by assumption, .inl (by assumption)⟩
          · exact j1 _ fun h0 ho => (L1 other ho).2 ⟨h, by assumption, .inr (by simpa using h0)⟩
        · exact j1 _ fun h => by cases h
      · rw [if_neg (by decide)]
        split
        · split
          · exact j1 _ fun _ ho => (L1 other ho).1 ⟨h, by assumption, by assumption⟩
          · exact j1 _ fun h => by cases h
        · exact j1 _ fun h => by cases h
    cases sell with
    | true => exact go 2 (.inl ⟨rfl, rfl⟩)
    | false => exact go 1 (.inr ⟨rfl, rfl⟩)
  · rw [if_neg hR, if_neg (by decide), round1 24, rv0 hR]
    rfl
end Go.Proofs.Ytiiflgihjnlmcaa.PRulesRound
