/- LevelsHalves, the plain side: two sides turned about. No condition. -/
import Derived.Test.YtkglplngnjgnhaaUpto
namespace Go.Proofs.Ytkglplngnjgnhaa
set_option linter.unusedVariables false
set_option linter.unusedSimpArgs false
open Go.RowKit

/-- The prices turned about. -/
def mir (L : List Lvl) : List Lvl := L.map fun x => (1000000001 - x.1, x.2)
theorem mir_len (L : List Lvl) : (mir L).length = L.length := by simp [mir]
theorem mir_get (L : List Lvl) (i : Nat) : (mir L)[i]? = (L[i]?).map fun x => (1000000001 - x.1, x.2) := by simp [mir]
theorem mir_rows (L : List Lvl) : (mir L).map Prod.snd = L.map Prod.snd := by simp [mir, Function.comp_def]
theorem mir_pos (p : Int) (L : List Lvl) : pos 1 (1000000001 - p) (mir L) = pos (-1) p L := by
  induction L with
  | nil => rfl
  | cons x t ih =>
    have e : mir (x :: t) = (1000000001 - x.1, x.2) :: mir t := rfl
    rw [e]
    simp only [pos, ih]
    by_cases h : -1 * x.1 < -1 * p
    · rw [if_pos h, if_pos (by omega)]
    · rw [if_neg h, if_neg (by omega)]
theorem mir_has (p : Int) (L : List Lvl) : has (1000000001 - p) (mir L) = has p L := by
  rw [Bool.eq_iff_iff, has_iff, has_iff]
  constructor
  · rintro ⟨x, hx, e⟩
    obtain ⟨y, hy, rfl⟩ := List.mem_map.1 hx
    exact ⟨y, hy, by simp only at e; omega⟩
  · rintro ⟨x, hx, rfl⟩
    exact ⟨_, List.mem_map.2 ⟨x, hx, rfl⟩, rfl⟩
theorem mir_put (p : Int) (r : Nat) (L : List Lvl) : put 1 (1000000001 - p) r (mir L) = mir (put (-1) p r L) := by
  unfold put
  rw [mir_pos]
  simp [mir, List.map_take, List.map_drop]
theorem upto_mir {lim : Int} (h1 : 1 ≤ lim) (h2 : lim ≤ 1000000000) (L : List Lvl) : uptoL 1 (1000000001 - lim) (mir L) = mir (uptoL (-1) lim L) := by
  unfold uptoL
  rw [if_neg (show ¬ (1000000001 - lim = 0) by omega), if_neg (show ¬ lim = 0 by omega), mir_has, mir_pos]
  split <;> simp [mir, List.map_take]

/-- How far Upto goes. -/
def uptoN (sg lim : Int) (L : List Lvl) : Nat := (uptoL sg lim L).length
theorem upto_take {sg lim : Int} (h : lim ≠ 0) (L : List Lvl) : uptoL sg lim L = L.take (uptoN sg lim L) := by
  unfold uptoN uptoL
  rw [if_neg h]
  split
  · rw [List.length_take]
    rcases Nat.le_total (pos sg lim L + 1) L.length with h1 | h1
    · rw [Nat.min_eq_left h1]
    · rw [Nat.min_eq_right h1, List.take_of_length_le h1, List.take_of_length_le (Nat.le_refl _)]
  · have := pos_le sg lim L
    rw [List.length_take, Nat.min_eq_left this]
theorem upto_in {sg lim : Int} (hsg : sg = 1 ∨ sg = -1) (h : lim ≠ 0) {L : List Lvl} (hs : Srt sg L) {j : Nat} {x : Lvl} (hj : j < uptoN sg lim L) (hx : L[j]? = some x) : sg * x.1 ≤ sg * lim := by
  have hp := pos_lt (p := lim) hs hx
  unfold uptoN uptoL at hj
  rw [if_neg h] at hj
  by_cases h1 : j < pos sg lim L
  · have := hp.1 h1; omega
  · split at hj
    · rename_i hh
      rw [List.length_take] at hj
      obtain ⟨y, hy, e⟩ := (has_at hsg hs).1 hh
      have e2 : j = pos sg lim L := by omega
      rw [e2, hy] at hx
      injection hx with hx
      rw [← hx, e]; exact Int.le_refl _
    · rw [List.length_take] at hj; omega
theorem upto_out {sg lim : Int} (hsg : sg = 1 ∨ sg = -1) (h : lim ≠ 0) {L : List Lvl} (hs : Srt sg L) {x : Lvl} (hx : L[uptoN sg lim L]? = some x) : sg * lim < sg * x.1 := by
  have hxl := (List.getElem?_eq_some_iff.1 hx).1
  cases hh : has lim L with
  | true =>
    obtain ⟨y, hy, e⟩ := (has_at hsg hs).1 hh
    have hyl := (List.getElem?_eq_some_iff.1 hy).1
    have hN : uptoN sg lim L = pos sg lim L + 1 := by
      unfold uptoN uptoL
      rw [if_neg h, if_pos hh, List.length_take]; omega
    rw [hN] at hx hxl
    have hp := List.pairwise_iff_getElem.1 hs (pos sg lim L) (pos sg lim L + 1) hyl hxl (by omega)
    rw [(List.getElem?_eq_some_iff.1 hy).2, (List.getElem?_eq_some_iff.1 hx).2, e] at hp
    exact hp
  | false =>
    have hN : uptoN sg lim L = pos sg lim L := by
      have := pos_le sg lim L
      unfold uptoN uptoL
      rw [if_neg h, if_neg (by rw [hh]; decide), List.length_take]; omega
    rw [hN] at hx
    have h1 := pos_lt (p := lim) hs hx
    have h2 : ¬ sg * x.1 < sg * lim := fun h => by have := h1.2 h; omega
    have h3 : x.1 ≠ lim := fun e => by
      have := (has_at hsg hs).2 ⟨x, hx, e⟩
      rw [hh] at this; cases this
    have h4 : sg * x.1 ≠ sg * lim := fun e => h3 (sg_inj hsg e)
    omega

/-- What was told so far goes on (the prices alone). -/
theorem told_next {P : List Int} {pre : List Lvl} (h : pre.map Prod.fst <+: P) (hl : pre.length < P.length) :
    ∃ y, P[pre.length]? = some y ∧ (∀ x : Lvl, x.1 = y → (pre ++ [x]).map Prod.fst <+: P) ∧ ∀ x : Lvl, x.1 ≠ y → ¬ (pre ++ [x]).map Prod.fst <+: P := by
  obtain ⟨t, ht⟩ := h
  cases t with
  | nil => rw [List.append_nil] at ht; rw [← ht, List.length_map] at hl; omega
  | cons y t =>
    refine ⟨y, by rw [← ht, List.getElem?_append_right (by simp)]; simp, fun x hx => ⟨t, by rw [← ht, List.map_append, List.append_assoc]; simp [hx]⟩, fun x hx hc => ?_⟩
    obtain ⟨s, hs⟩ := hc
    rw [← ht, List.map_append, List.append_assoc] at hs
    have := List.append_cancel_left hs
    simp at this
    exact hx this.1
end Go.Proofs.Ytkglplngnjgnhaa
