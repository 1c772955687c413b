/- Decimal: the plain laws of reading and printing. No condition but what each says. -/
import Derived.Test.YtkpndnjnckaanaaDoorDm1
namespace Go.Proofs.YtkpndnjnckaanaaDoor
set_option linter.unusedVariables false
set_option linter.unusedSimpArgs false

theorem wrongC_cases (s : List UInt8) : (minusOf s = true ∧ ∃ t, s = 45 :: t ∧ restOf s = t ∧ ahd s = 1) ∨ (minusOf s = false ∧ restOf s = s ∧ ahd s = 0) := by
  cases h : minusOf s with
  | false => exact .inr ⟨rfl, by unfold restOf; rw [h]; rfl, by unfold ahd; rw [h]; rfl⟩
  | true =>
    cases s with
    | nil => simp [minusOf] at h
    | cons b t =>
      have hb : b = 45 := by simpa [minusOf] using h
      subst hb
      exact .inl ⟨rfl, t, rfl, by unfold restOf; rw [h]; rfl, by unfold ahd; rw [h]; rfl⟩
theorem Whl.alone {A B : List UInt8} (h : Whl A B) : Whl A [] := ⟨h.ne, h.dig, h.one, fun _ => by simp⟩
theorem Whl.point {A B : List UInt8} (h : Whl A B) (x : List UInt8) : Whl A (46 :: x) := ⟨h.ne, h.dig, h.one, fun _ => by simp [isD]⟩
theorem Whl.first {A B : List UInt8} {b : UInt8} {t : List UInt8} (h : Whl A B) (e : B = b :: t) : Whl A [b] := ⟨h.ne, h.dig, h.one, fun hh => by have := h.far hh; rw [e] at this; simpa using this⟩

theorem placeR {r : List UInt8} {p a : Nat} (h : wrongR r p = some a) : a ≤ r.length ∧ (wrongR (r.take a) p = none ∨ wrongR (r.take a ++ [48]) p = none) ∧ (a < r.length → wrongR (r.take (a + 1)) p = some a) := by
  by_cases h0 : dg r = 0
  · unfold wrongR at h
    rw [if_pos h0] at h
    obtain rfl : (0 : Nat) = a := by simpa using h
    refine ⟨Nat.zero_le _, .inr ?_, fun _ => ?_⟩
    · have w : Whl [48] [] := ⟨by simp, by simp [isD], fun _ => rfl, fun h => absurd rfl h⟩
      have := w.wrong p
      simpa using this
    · unfold wrongR
      rw [if_pos (by rw [dg_take, h0]; omega)]
  obtain ⟨A, B, hr, w⟩ : ∃ A B, r = A ++ B ∧ Whl A B := ⟨_, _, (List.take_append_drop _ _).symm, whl_of h0⟩
  subst hr
  rw [w.wrong] at h
  by_cases hB : B = []
  · rw [if_pos hB] at h; cases h
  rw [if_neg hB] at h
  obtain ⟨b, t, rfl⟩ : ∃ b t, B = b :: t := by
    cases B with
    | nil => exact absurd rfl hB
    | cons b t => exact ⟨b, t, rfl⟩
  by_cases hp : p = 0 ∨ (b :: t).head? ≠ some 46
  · rw [if_pos hp] at h
    obtain rfl : A.length = a := by simpa using h
    refine ⟨by simp, .inl ?_, fun _ => ?_⟩
    · rw [List.take_left]
      have := w.alone.wrong p
      rw [List.append_nil, if_pos rfl] at this
      exact this
    · rw [List.take_append, List.take_of_length_le (by omega), show A.length + 1 - A.length = 1 by omega, List.take_succ_cons, List.take_zero, (w.first rfl).wrong p, if_neg (by simp), if_pos (by simpa using hp)]
  · rw [if_neg hp] at h
    have hp0 : p ≠ 0 := fun hh => hp (.inl hh)
    obtain rfl : b = 46 := Classical.byContradiction fun hh => hp (.inr (by simpa using hh))
    simp only [List.tail_cons] at h
    obtain ⟨k, hk⟩ : ∃ k, k = min (dg t) p := ⟨_, rfl⟩
    simp only [← hk] at h
    have hkt : k ≤ t.length := by have := dg_le t; omega
    by_cases hw : k = 0 ∨ k + 1 < (46 :: t : List UInt8).length
    · rw [if_pos hw] at h
      obtain rfl : A.length + 1 + k = a := by simpa using h
      have htk : ∀ j, (A ++ 46 :: t).take (A.length + 1 + j) = A ++ 46 :: t.take j := fun j => by
        rw [List.take_append, List.take_of_length_le (by omega), show A.length + 1 + j - A.length = j + 1 by omega, List.take_succ_cons]
      refine ⟨by simp; omega, ?_, fun hlt => ?_⟩
      · by_cases hk0 : k = 0
        · right
          rw [htk, hk0, List.take_zero, List.append_assoc, List.cons_append, List.nil_append, (w.point [48]).wrong p, if_neg (by simp), if_neg (fun h1 => h1.elim hp0 (fun h2 => h2 rfl)), List.tail_cons]
          have : dg [48] = 1 := by simp [dg, isD]
          rw [this, if_neg]
          simp
          omega
        · left
          rw [htk, (w.point _).wrong p, if_neg (by simp), if_neg (fun h1 => h1.elim hp0 (fun h2 => h2 rfl)), List.tail_cons, dg_take, if_neg]
          simp only [List.length_cons, List.length_take]
          omega
      · rw [show A.length + 1 + k + 1 = A.length + 1 + (k + 1) by omega, htk, (w.point _).wrong p, if_neg (by simp), if_neg (fun h1 => h1.elim hp0 (fun h2 => h2 rfl)), List.tail_cons, dg_take]
        have hlt' : k < t.length := by simp at hlt; omega
        have e : min (min (k + 1) (dg t)) p = k := by omega
        rw [e, if_pos]
        right
        simp only [List.length_cons, List.length_take]
        omega
    · rw [if_neg hw] at h; cases h
theorem place_law {s : List UInt8} {p a : Nat} (h : wrongC s p = some a) : a ≤ s.length ∧ (wrongC (s.take a) p = none ∨ wrongC (s.take a ++ [48]) p = none) ∧ (a < s.length → wrongC (s.take (a + 1)) p = some a) := by
  unfold wrongC at h
  rcases wrongC_cases s with ⟨h1, t, rfl, h2, h3⟩ | ⟨h1, h2, h3⟩
  · rw [h2, h3] at h
    obtain ⟨a', ha, rfl⟩ := Option.map_eq_some_iff.1 h
    obtain ⟨i1, i2, i3⟩ := placeR ha
    have e : ∀ x, wrongC (45 :: x) p = (wrongR x p).map (1 + ·) := fun x => rfl
    refine ⟨by simp; omega, ?_, fun hlt => ?_⟩
    · rw [show 1 + a' = a' + 1 by omega, List.take_succ_cons, List.cons_append, e, e]
      rcases i2 with i2 | i2
      · left; rw [i2]; rfl
      · right; rw [i2]; rfl
    · rw [show 1 + a' + 1 = (a' + 1) + 1 by omega, List.take_succ_cons, e, i3 (by simp at hlt; omega)]
      rfl
  · rw [h2, h3] at h
    obtain ⟨a', ha, hz⟩ := Option.map_eq_some_iff.1 h
    obtain rfl : a' = a := by omega
    obtain ⟨i1, i2, i3⟩ := placeR ha
    have hz : minusOf [48] = false := rfl
    have hm : ∀ j, minusOf (s.take j) = false := fun j => by
      cases s with
      | nil => simpa using h1
      | cons b t =>
        cases j with
        | zero => rfl
        | succ j => exact h1
    have hm2 : ∀ j, minusOf (s.take j ++ [48]) = false := fun j => by
      cases s with
      | nil => simpa using hz
      | cons b t =>
        cases j with
        | zero => rfl
        | succ j => exact h1
    have e : ∀ x, minusOf x = false → wrongC x p = wrongR x p := fun x hx => by
      have r1 : restOf x = x := by unfold restOf; rw [hx]; rfl
      have r2 : ahd x = 0 := by unfold ahd; rw [hx]; rfl
      unfold wrongC
      rw [r1, r2]
      cases wrongR x p with
      | none => rfl
      | some v => simp
    refine ⟨i1, ?_, fun hlt => ?_⟩
    · rw [e _ (hm _), e _ (hm2 _)]; exact i2
    · rw [e _ (hm _)]; exact i3 hlt

/-! ### digits -/
theorem valD_snoc (l : List UInt8) (b : UInt8) : valD (l ++ [b]) = 10 * valD l + (b.toNat - 48) := by
  unfold valD; rw [List.foldl_append]; rfl
theorem valD_zeros : ∀ (k : Nat) (l : List UInt8), valD (l ++ List.replicate k 48) = valD l * 10 ^ k
  | 0, l => by simp
  | k + 1, l => by
    rw [List.replicate_succ', ← List.append_assoc, valD_snoc, valD_zeros k l, Nat.pow_succ]
    have : (48 : UInt8).toNat = 48 := rfl
    rw [this]
    have := Nat.mul_assoc (valD l) (10 ^ k) 10
    omega
theorem valD_lead : ∀ (k : Nat) (l : List UInt8), valD (List.replicate k 48 ++ l) = valD l
  | 0, l => by simp
  | k + 1, l => by
    rw [List.replicate_succ, List.cons_append]
    have : valD (48 :: (List.replicate k 48 ++ l)) = valD (List.replicate k 48 ++ l) := rfl
    rw [this, valD_lead k l]
theorem digit_of {d : Nat} (h : d < 10) : (UInt8.ofNat (48 + d)).toNat = 48 + d := by
  rw [UInt8.toNat_ofNat']
  omega
theorem isD_of {d : Nat} (h : d < 10) : isD (UInt8.ofNat (48 + d)) = true := by
  unfold isD
  rw [digit_of h]
  simp; omega
theorem dec_digits (u : Nat) : (∀ b ∈ Lib.decDigits u, isD b = true) ∧ Lib.decDigits u ≠ [] ∧ valD (Lib.decDigits u) = u ∧ ((Lib.decDigits u).head? = some 48 → u = 0) := by
  induction u using Nat.strongRecOn with
  | ind u ih =>
    by_cases h : u < 10
    · rw [Lib.decDigits_one h]
      refine ⟨fun b hb => by rw [List.mem_singleton.1 hb]; exact isD_of h, by simp, ?_, fun h0 => ?_⟩
      · have : valD [UInt8.ofNat (48 + u)] = 10 * 0 + ((UInt8.ofNat (48 + u)).toNat - 48) := rfl
        rw [this, digit_of h]; omega
      · have h1 : UInt8.ofNat (48 + u) = 48 := by simpa using h0
        have h2 := digit_of h
        rw [h1] at h2
        have : (48 : UInt8).toNat = 48 := rfl
        omega
    · obtain ⟨i1, i2, i3, i4⟩ := ih (u / 10) (by omega)
      rw [Lib.decDigits, dif_neg h]
      refine ⟨?_, by simp, ?_, fun h0 => ?_⟩
      · intro b hb
        rcases List.mem_append.1 hb with hb | hb
        · exact i1 b hb
        · rw [List.mem_singleton.1 hb]; exact isD_of (d := u % 10) (by omega)
      · rw [valD_snoc, i3, digit_of (d := u % 10) (by omega)]; omega
      · have : (Lib.decDigits (u / 10)).head? = some 48 := by
          cases hq : Lib.decDigits (u / 10) with
          | nil => exact absurd hq i2
          | cons x xs => rw [hq] at h0; simpa using h0
        have := i4 this
        omega
theorem dec_len_zero : Lib.decDigits 0 = [48] := by rw [Lib.decDigits_one (by omega)]; rfl
/-- Digits are noughts ahead of the number's own ones. -/
theorem digits_are' : ∀ (n : Nat) (l : List UInt8), l.length = n → l ≠ [] → (∀ b ∈ l, isD b = true) → ∃ z, l = List.replicate z 48 ++ Lib.decDigits (valD l) := by
  intro n
  induction n with
  | zero => intro l hl hne; exact absurd (List.length_eq_zero_iff.1 hl) hne
  | succ n ih' =>
    intro l hl hne hd
    obtain ⟨t, b, rfl⟩ : ∃ t b, l = t ++ [b] := ⟨_, _, (List.dropLast_concat_getLast hne).symm⟩
    have ih := fun ht hd => ih' t (by simpa using hl) ht hd
    have hb : isD b = true := hd b (by simp)
    have hbb : 48 ≤ b.toNat ∧ b.toNat ≤ 57 := by simpa [isD] using hb
    have hofb : UInt8.ofNat (48 + (b.toNat - 48)) = b := by
      rw [show 48 + (b.toNat - 48) = b.toNat by omega]
      exact UInt8.ofNat_toNat
    rw [valD_snoc]
    by_cases ht : t = []
    · subst ht
      refine ⟨0, ?_⟩
      have : valD [] = 0 := rfl
      rw [this, Lib.decDigits_one (by omega)]
      simp only [Nat.mul_zero, Nat.zero_add]
      rw [hofb]
      rfl
    · obtain ⟨z, hz⟩ := ih ht (fun x hx => hd x (by simp [hx]))
      by_cases h0 : valD t = 0
      · rw [h0, dec_len_zero] at hz
        refine ⟨z + 1, ?_⟩
        rw [h0, Nat.mul_zero, Nat.zero_add, Lib.decDigits_one (by omega), hofb, List.replicate_succ', ← hz]
      · refine ⟨z, ?_⟩
        rw [Lib.decDigits, dif_neg (by omega), show (10 * valD t + (b.toNat - 48)) / 10 = valD t by omega, show (10 * valD t + (b.toNat - 48)) % 10 = b.toNat - 48 by omega, hofb, ← List.append_assoc, ← hz]

theorem digits_are (l : List UInt8) (hne : l ≠ []) (hd : ∀ b ∈ l, isD b = true) : ∃ z, l = List.replicate z 48 ++ Lib.decDigits (valD l) := digits_are' _ l rfl hne hd
def padD (u k : Nat) : List UInt8 := List.replicate (k - (Lib.decDigits u).length) 48 ++ Lib.decDigits u
def sgnL (n : Int) : List UInt8 := if n < 0 then [45] else []
def printC (n : Int) (p : Nat) : List UInt8 :=
  if p = 0 then Lib.itoa n
  else sgnL n ++ ((padD n.natAbs (p + 1)).take ((padD n.natAbs (p + 1)).length - p) ++ 46 :: (padD n.natAbs (p + 1)).drop ((padD n.natAbs (p + 1)).length - p))
def printI (n p : Int) : List UInt8 × Int := if 0 ≤ p ∧ p ≤ 9 then (printC n p.toNat, 0) else ([], 1)
theorem itoa_eq (n : Int) : Lib.itoa n = sgnL n ++ Lib.decDigits n.natAbs := by
  unfold Lib.itoa sgnL
  split
  · rfl
  · rw [show n.toNat = n.natAbs by omega]; rfl
theorem padD_props (u k : Nat) : (∀ b ∈ padD u k, isD b = true) ∧ k ≤ (padD u k).length ∧ valD (padD u k) = u ∧ (Lib.decDigits u).length ≤ (padD u k).length := by
  obtain ⟨i1, i2, i3, i4⟩ := dec_digits u
  unfold padD
  refine ⟨fun b hb => ?_, by simp; omega, by rw [valD_lead, i3], by simp⟩
  rcases List.mem_append.1 hb with hb | hb
  · rw [(List.mem_replicate.1 hb).2]; rfl
  · exact i1 b hb
/-- What is printed. -/
theorem print_shape (n : Int) (p : Nat) : ∃ A B, printC n p = sgnL n ++ (A ++ B) ∧ Whl A B ∧ ((p = 0 ∧ B = []) ∨ (p ≠ 0 ∧ ∃ D, B = 46 :: D ∧ D.length = p ∧ ∀ b ∈ D, isD b = true)) ∧ valD (A ++ B.tail) = n.natAbs := by
  obtain ⟨i1, i2, i3, i4⟩ := dec_digits n.natAbs
  unfold printC
  by_cases hp : p = 0
  · rw [if_pos hp, itoa_eq]
    refine ⟨Lib.decDigits n.natAbs, [], by simp, ⟨i2, i1, fun h0 => ?_, fun _ => by simp⟩, .inl ⟨hp, rfl⟩, by simpa using i3⟩
    rw [i4 h0, dec_len_zero]; rfl
  · rw [if_neg hp]
    obtain ⟨j1, j2, j3, j4⟩ := padD_props n.natAbs (p + 1)
    refine ⟨_, _, rfl, ⟨?_, fun b hb => j1 b (List.mem_of_mem_take hb), fun h0 => ?_, fun _ => by simp [isD]⟩, .inr ⟨hp, _, rfl, ?_, fun b hb => j1 b (List.mem_of_mem_drop hb)⟩, ?_⟩
    · intro hn
      have := congrArg List.length hn
      simp only [List.length_take, List.length_nil] at this
      omega
    · rw [List.length_take]
      have hL : (padD n.natAbs (p + 1)).length = max (p + 1) (Lib.decDigits n.natAbs).length := by unfold padD; simp; omega
      by_cases hl : (Lib.decDigits n.natAbs).length ≤ p + 1
      · omega
      · exfalso
        have e : padD n.natAbs (p + 1) = Lib.decDigits n.natAbs := by unfold padD; rw [show p + 1 - (Lib.decDigits n.natAbs).length = 0 by omega]; rfl
        rw [e] at h0
        have h1 : (Lib.decDigits n.natAbs).head? = some 48 := by
          rw [List.head?_take, if_neg (by omega)] at h0
          exact h0
        have h2 := i4 h1
        rw [h2, dec_len_zero] at hl
        simp at hl
    · rw [List.length_drop]; omega
    · rw [List.tail_cons, List.take_append_drop, j3]
theorem print_sign (n : Int) (p : Nat) {A B : List UInt8} (h : printC n p = sgnL n ++ (A ++ B)) (w : Whl A B) : minusOf (printC n p) = decide (n < 0) ∧ restOf (printC n p) = A ++ B ∧ (printC n p).length = ahd (printC n p) + (A ++ B).length ∧ ahd (printC n p) = if n < 0 then 1 else 0 := by
  rw [h]
  unfold sgnL
  by_cases hn : n < 0
  · rw [if_pos hn]
    refine ⟨by simp [minusOf, hn], rfl, ?_, by rw [if_pos hn]; rfl⟩
    show ([45] ++ (A ++ B) : List UInt8).length = 1 + (A ++ B).length
    simp; omega
  · rw [if_neg hn]
    have hm : minusOf (A ++ B) = false := by
      cases A with
      | nil => exact absurd rfl w.ne
      | cons b t =>
        have := w.dig b (by simp)
        show (b == 45) = false
        refine beq_eq_false_iff_ne.2 fun h => ?_
        rw [h] at this; exact absurd this (by decide)
    simp only [List.nil_append]
    refine ⟨by simp [hm, hn], by unfold restOf; rw [hm]; rfl, by unfold ahd; rw [hm]; simp, by unfold ahd; rw [hm, if_neg hn]; rfl⟩
theorem print_read (n : Int) (p x : Nat) : parseC (printC n p) (p + x) = if fits64 (n * 10 ^ x) then (n * 10 ^ x, 0, 0) else (0, 21, 0) := by
  obtain ⟨A, B, he, w, hB, hv⟩ := print_shape n p
  obtain ⟨h1, h2, _, _⟩ := print_sign n p he w
  have hw : wrongC (printC n p) (p + x) = none := by
    unfold wrongC
    rw [h2, w.wrong]
    rcases hB with ⟨_, rfl⟩ | ⟨hp, D, rfl, hl, hd⟩
    · rfl
    · rw [if_neg (by simp), if_neg (by simp; omega), List.tail_cons, dg_all hd, hl, if_neg]
      · rfl
      · rw [List.length_cons, hl]; omega
  have ht : B.tail.length = p := by
    rcases hB with ⟨hp, rfl⟩ | ⟨hp, D, rfl, hl, hd⟩
    · simp [hp]
    · exact hl
  have hval : sgnV (minusOf (printC n p)) (valD (digR (restOf (printC n p)) (p + x))) = n * 10 ^ x := by
    rw [h1, h2, w.digs, ht, show p + x - p = x by omega, valD_zeros, hv]
    unfold sgnV
    by_cases hn : n < 0
    · rw [if_pos (by simpa using hn), Int.natCast_mul, Int.natCast_pow]
      rw [show ((n.natAbs : Nat) : Int) = -n by omega, Int.neg_mul, Int.neg_neg]
      rfl
    · rw [if_neg (by simpa using hn), Int.natCast_mul, Int.natCast_pow]
      rw [show ((n.natAbs : Nat) : Int) = n by omega]
      rfl
  unfold parseC
  rw [hw]
  simp only [hval]
theorem print_less (n : Int) (p : Nat) (hp : p ≠ 0) : parseC (printC n p) (p - 1) = (0, 20, if p = 1 then ((printC n p).length : Int) - 2 else ((printC n p).length : Int) - 1) ∧ 2 ≤ (printC n p).length := by
  obtain ⟨A, B, he, w, hB, hv⟩ := print_shape n p
  obtain ⟨h1, h2, h3, _⟩ := print_sign n p he w
  rcases hB with ⟨h0, _⟩ | ⟨_, D, rfl, hl, hd⟩
  · exact absurd h0 hp
  have hA : 0 < A.length := List.length_pos_iff.2 w.ne
  have hlen : (printC n p).length = ahd (printC n p) + (A.length + (p + 1)) := by rw [h3]; simp [hl]
  refine ⟨?_, by omega⟩
  have hw : wrongC (printC n p) (p - 1) = some (ahd (printC n p) + (if p = 1 then A.length else A.length + p)) := by
    unfold wrongC
    rw [h2, w.wrong, if_neg (by simp)]
    by_cases h1 : p = 1
    · rw [if_pos (.inl (by omega)), if_pos h1]; rfl
    · rw [if_neg (by simp; omega), List.tail_cons, dg_all hd, hl, if_pos (.inr (by rw [List.length_cons, hl]; omega)), if_neg h1, show A.length + 1 + min p (p - 1) = A.length + p by omega]; rfl
  unfold parseC
  rw [hw]
  simp only [Prod.mk.injEq, true_and]
  split
  · omega
  · omega
/-- What is read is printed so. -/
theorem read_print {s : List UInt8} {p : Nat} (h : wrongC s p = none) (x : Int) (hx : x = sgnV (minusOf s) (valD (digR (restOf s) p))) :
    s ≠ [] ∧ ∃ Z, printC x p = (if x = 0 ∧ minusOf s = true then s.tail else s) ++ Z ∧ ∀ (i : Nat) (b : UInt8), Z[i]? = some b → b = 48 ∨ (b = 46 ∧ i = 0) := by
  have hr : wrongR (restOf s) p = none := by
    unfold wrongC at h
    exact Option.map_eq_none_iff.1 h
  have hdg : dg (restOf s) ≠ 0 := fun h0 => by unfold wrongR at hr; rw [if_pos h0] at hr; cases hr
  obtain ⟨A, B, he, w⟩ : ∃ A B, restOf s = A ++ B ∧ Whl A B := ⟨_, _, (List.take_append_drop _ _).symm, whl_of hdg⟩
  rw [he] at hr hx
  rw [w.wrong] at hr
  rw [w.digs] at hx
  have hB : B = [] ∨ (p ≠ 0 ∧ ∃ u, B = 46 :: u ∧ u.length ≤ p ∧ ∀ b ∈ u, isD b = true) := by
    by_cases h0 : B = []
    · exact .inl h0
    · rw [if_neg h0] at hr
      by_cases h1 : p = 0 ∨ B.head? ≠ some 46
      · rw [if_pos h1] at hr; cases hr
      · rw [if_neg h1] at hr
        by_cases h2 : min (dg B.tail) p = 0 ∨ min (dg B.tail) p + 1 < B.length
        · rw [if_pos h2] at hr; cases hr
        · cases B with
          | nil => exact absurd rfl h0
          | cons b u =>
            have hb : b = 46 := Classical.byContradiction fun hh => h1 (.inr (by simpa using hh))
            subst hb
            simp only [List.tail_cons, List.length_cons] at h2
            have hle := dg_le u
            have hdu : dg u = u.length := by omega
            refine .inr ⟨fun hp => h1 (.inl hp), u, rfl, by omega, ?_⟩
            have := dg_digits u
            rwa [hdu, List.take_length] at this
  have hA : 0 < A.length := List.length_pos_iff.2 w.ne
  have hsne : s ≠ [] := fun h0 => by
    have h1 : restOf s = [] := by rw [h0]; rfl
    rw [he] at h1
    exact w.ne (List.append_eq_nil_iff.1 h1).1
  have ht : B.tail.length ≤ p := by
    rcases hB with rfl | ⟨_, u, rfl, hu, _⟩
    · simp
    · exact hu
  obtain ⟨l, hl⟩ : ∃ l, l = A ++ B.tail ++ List.replicate (p - B.tail.length) 48 := ⟨_, rfl⟩
  rw [← hl] at hx
  have hll : l.length = A.length + p := by rw [hl]; simp only [List.length_append, List.length_replicate]; omega
  have hld : ∀ b ∈ l, isD b = true := by
    rw [hl]
    intro b hb
    rcases List.mem_append.1 hb with hb | hb
    · rcases List.mem_append.1 hb with hb | hb
      · exact w.dig b hb
      · rcases hB with rfl | ⟨_, u, rfl, _, hu⟩
        · simp at hb
        · exact hu b hb
    · rw [(List.mem_replicate.1 hb).2]; rfl
  obtain ⟨z, hz⟩ := digits_are l (fun h0 => by rw [h0] at hll; simp at hll; omega) hld
  have hxa : x.natAbs = valD l := by rw [hx]; unfold sgnV; split <;> omega
  have hhead : l.head? = A.head? := by
    rw [hl]
    cases A with
    | nil => exact absurd rfl w.ne
    | cons b t => rfl
  have hzz : A.length = 1 ∨ z = 0 := by
    by_cases h0 : A.head? = some 48
    · exact .inl (w.one h0)
    · right
      cases z with
      | zero => rfl
      | succ z => rw [hz] at hhead; exact absurd (by rw [← hhead]; rfl) h0
  have hpad : padD (valD l) (p + 1) = l := by
    have hlz := congrArg List.length hz
    rw [List.length_append, List.length_replicate] at hlz
    unfold padD
    rw [show p + 1 - (Lib.decDigits (valD l)).length = z by omega]
    exact hz.symm
  have hsg : s = (if minusOf s then [45] else []) ++ (A ++ B) := by
    rcases wrongC_cases s with ⟨h1, t, rfl, h2, h3⟩ | ⟨h1, h2, h3⟩
    · rw [h1, if_pos rfl, ← he, h2]; rfl
    · rw [h1, if_neg (by decide), ← he, h2]; rfl
  have hs' : (if x = 0 ∧ minusOf s = true then s.tail else s) = sgnL x ++ (A ++ B) := by
    have hv : x = if minusOf s = true then -((valD l : Nat) : Int) else ((valD l : Nat) : Int) := hx
    unfold sgnL
    cases hm : minusOf s with
    | false =>
      rw [hm] at hsg hv
      rw [if_neg (by simp)]
      rw [if_neg (by decide)] at hv
      rw [if_neg (by omega)]
      rw [if_neg (by decide)] at hsg
      exact hsg
    | true =>
      rw [hm] at hsg hv
      rw [if_pos rfl] at hsg hv
      by_cases h0 : x = 0
      · rw [if_pos ⟨h0, rfl⟩, if_neg (by omega), hsg]; rfl
      · rw [if_neg (fun hh => h0 hh.1), if_pos (by omega), hsg]
  refine ⟨hsne, ?_⟩
  rw [hs']
  unfold printC
  rw [hxa]
  by_cases hp : p = 0
  · rw [if_pos hp, itoa_eq, hxa]
    rcases hB with rfl | ⟨h1, _⟩
    · refine ⟨[], ?_, fun i b hb => by simp at hb⟩
      have hl2 : l = A := by rw [hl, hp]; simp
      rw [← hl2]
      have hz0 : z = 0 := by
        rcases hzz with h1 | h1
        · have hlz := congrArg List.length hz
          rw [List.length_append, List.length_replicate] at hlz
          have hd1 := (dec_digits (valD l)).2.1
          have hd2 : 0 < (Lib.decDigits (valD l)).length := List.length_pos_iff.2 hd1
          omega
        · exact h1
      rw [hz0] at hz
      have hz2 : l = Lib.decDigits (valD l) := hz
      rw [List.append_nil, List.append_nil, ← hz2]
    · exact absurd hp h1
  · rw [if_neg hp, hpad, hll, show A.length + p - p = A.length by omega]
    have htk : l.take A.length = A := by rw [hl, List.append_assoc, List.take_left]
    have hdp : l.drop A.length = B.tail ++ List.replicate (p - B.tail.length) 48 := by rw [hl, List.append_assoc, List.drop_left]
    rw [htk, hdp]
    rcases hB with rfl | ⟨_, u, rfl, _, _⟩
    · refine ⟨46 :: List.replicate p 48, by simp, fun i b hb => ?_⟩
      cases i with
      | zero => right; simp at hb; exact ⟨hb.symm, rfl⟩
      | succ i =>
        left
        rw [List.getElem?_cons_succ] at hb
        exact (List.mem_replicate.1 (List.mem_of_getElem? hb)).2
    · refine ⟨List.replicate (p - u.length) 48, by simp, fun i b hb => .inl (List.mem_replicate.1 (List.mem_of_getElem? hb)).2⟩
end Go.Proofs.YtkpndnjnckaanaaDoor
