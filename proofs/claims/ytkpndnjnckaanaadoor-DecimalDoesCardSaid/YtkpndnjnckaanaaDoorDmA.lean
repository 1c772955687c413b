/- Decimal, the document's side: numbers of 64 bits: Mul by ten, Sub of a digit, Neg. Conditions: the numbers are of 64 bits. -/
import Derived.Test.YtkpndnjnckaanaaDoorDm6
namespace Go.Proofs.YtkpndnjnckaanaaDoor
set_option linter.unusedVariables false
set_option linter.unusedSimpArgs false
open Go.RowKit Go.Shelf

theorem Gw.drewN {w W : World} (h : Gw w W) (n : Nat) : Gw w (W.drewN n) := h.trans (Go.Joins.below_draws _ _ _)
theorem r1_size (a : Int) (ha : fits64 a = true) (w : World) : Calls Tryd.prog 39 #[.int .i64 a] w fun e w' => e = .returned (.int .u64 (a.natAbs : Nat)) ∧ w = w' := by
  have ha' : -9223372036854775808 ≤ a ∧ a ≤ 9223372036854775807 := of_decide_eq_true ha
  by_cases hl : a = -9223372036854775808
  · subst hl
    have e9 : (((-9223372036854775808 : Int).natAbs : Nat) : Int) = 9223372036854775808 := rfl
    rw [e9]
    clear e9 ha ha'
    go_enter Tryd.func39, Tryd.ntmps39
    go_wp2_with fail
    go_returns
    exact ⟨rfl, rfl⟩
  have tl : (a == -9223372036854775808) = false := by simpa using hl
  obtain ⟨k, hk⟩ : ∃ k, k = a.natAbs := ⟨_, rfl⟩
  rw [← hk]
  by_cases h0 : a < 0
  · have t1 : decide (a < 0) = true := by simpa using h0
    have w0 : IntKind.i64.wrap (-a) = (k : Int) := by rw [IntKind.wrap_i64]; omega
    have w1 : IntKind.u64.wrap (k : Int) = (k : Int) := by rw [IntKind.wrap_u64]; omega
    clear hk ha ha' h0 hl
    go_enter Tryd.func39, Tryd.ntmps39
    go_wp2_with fail
    go_returns
    exact ⟨rfl, rfl⟩
  · have t1 : decide (a < 0) = false := by simpa using h0
    have w1 : IntKind.u64.wrap a = (k : Int) := by rw [IntKind.wrap_u64]; omega
    clear hk ha ha' h0 hl
    go_enter Tryd.func39, Tryd.ntmps39
    go_wp2_with fail
    go_returns
    exact ⟨rfl, rfl⟩
theorem r1_signed (n : Nat) (hn : n < 18446744073709551616) (m : Bool) (w : World) : Calls Tryd.prog 40 #[.int .u64 (n : Int), .bool m] w fun e w' => e = .returned (tellV (sgnV m n)) ∧ w = w' := by
  obtain ⟨t, ht⟩ : ∃ t, fits64 (sgnV m n) = t := ⟨_, rfl⟩
  have ht2 : t = decide (-9223372036854775808 ≤ sgnV m n ∧ sgnV m n ≤ 9223372036854775807) := ht.symm
  unfold tellV
  rw [ht]
  by_cases h8 : m = true ∧ n = 9223372036854775808
  · obtain ⟨rfl, rfl⟩ := h8
    obtain rfl : t = true := by rw [ht2]; rfl
    have e9 : sgnV true 9223372036854775808 = -9223372036854775808 := rfl
    rw [e9]
    have e8 : ((9223372036854775808 : Nat) : Int) = 9223372036854775808 := rfl
    rw [e8, if_pos rfl]
    clear e9 e8 ht ht2 hn
    go_enter Tryd.func40, Tryd.ntmps40
    go_wp2_with fail
    go_returns
    exact ⟨rfl, rfl⟩
  by_cases h7 : n ≤ 9223372036854775807
  · obtain rfl : t = true := by
      rw [ht2]
      refine decide_eq_true ?_
      unfold sgnV
      split <;> omega
    obtain ⟨v, hv⟩ : ∃ v, v = sgnV m n := ⟨_, rfl⟩
    rw [if_pos rfl, ← hv]
    have tl : ((n : Int) == 9223372036854775808) = false := by simp; omega
    have t7 : decide (9223372036854775807 < (n : Int)) = false := decide_eq_false (by omega)
    have w0 : IntKind.i64.wrap (n : Int) = (n : Int) := by rw [IntKind.wrap_i64]; omega
    have w1 : IntKind.i64.wrap (-(n : Int)) = -(n : Int) := by rw [IntKind.wrap_i64]; omega
    cases m with
    | true =>
      obtain rfl : v = -(n : Int) := hv
      clear ht ht2 hn h7 h8
      go_enter Tryd.func40, Tryd.ntmps40
      go_wp2_with fail
      go_returns
      exact ⟨rfl, rfl⟩
    | false =>
      obtain rfl : v = (n : Int) := hv
      clear ht ht2 hn h7 h8
      go_enter Tryd.func40, Tryd.ntmps40
      go_wp2_with fail
      go_returns
      exact ⟨rfl, rfl⟩
  · obtain rfl : t = false := by
      rw [ht2]
      refine decide_eq_false ?_
      unfold sgnV
      cases m with
      | true => rw [if_pos rfl]; have : n ≠ 9223372036854775808 := fun h => h8 ⟨rfl, h⟩; omega
      | false => rw [if_neg (by decide)]; omega
    rw [if_neg (by decide)]
    have t7 : decide (9223372036854775807 < (n : Int)) = true := decide_eq_true (by omega)
    cases m with
    | true =>
      have tl : ((n : Int) == 9223372036854775808) = false := by have : n ≠ 9223372036854775808 := fun h => h8 ⟨rfl, h⟩; simp; omega
      clear ht ht2 hn h7 h8
      go_enter Tryd.func40, Tryd.ntmps40
      go_wp2_with fail
      go_returns
      exact ⟨rfl, rfl⟩
    | false =>
      clear ht ht2 hn h7 h8
      go_enter Tryd.func40, Tryd.ntmps40
      go_wp2_with fail
      go_returns
      exact ⟨rfl, rfl⟩
set_option maxRecDepth 100000 in
theorem r1_wide (k : Nat) (hk : k ≤ 9223372036854775808) (w : World) : Calls Tryd.prog 38 #[.int .u64 (k : Int), .int .u64 10] w fun e w' => e = .returned (.tuple #[.int .u64 ((k * 10 / 18446744073709551616 : Nat) : Int), .int .u64 ((k * 10 % 18446744073709551616 : Nat) : Int)]) ∧ Gw w w' := by
  go_enter Tryd.func38, Tryd.ntmps38
  go_wp2_with fail
  go_quiet (fail)
  go_wp2_with fail
  go_quiet (fail)
  go_wp2_with fail
  go_quiet (fail)
  go_wp2_with fail
  go_quiet (fail)
  go_wp2_with fail
  go_quiet (fail)
  go_wp2_with fail
  go_returns
  refine ⟨?_, by repeat (first | exact Gw.refl _ | refine Gw.drewN ?_ _)⟩
  have e1 : (k : Int) / 4294967296 * 10 / 4294967296 + ((k : Int) % 4294967296 * 10 / 4294967296 + (k : Int) / 4294967296 * 10 % 4294967296) / 4294967296 = ((k * 10 / 18446744073709551616 : Nat) : Int) := by omega
  have e2 : ((k : Int) % 4294967296 * 10 / 4294967296 + (k : Int) / 4294967296 * 10) % 4294967296 * 4294967296 + (k : Int) % 4294967296 * 10 % 4294967296 = ((k * 10 % 18446744073709551616 : Nat) : Int) := by omega
  rw [e1, e2]
  rfl
set_option maxRecDepth 100000 in
theorem r1_mul10 (a : Int) (ha : fits64 a = true) (w : World) : Calls Tryd.prog 20 #[.int .i64 a, .int .i64 10] w fun e w' => e = .returned (tellV (a * 10)) ∧ Gw w w' := by
  have ha' : -9223372036854775808 ≤ a ∧ a ≤ 9223372036854775807 := of_decide_eq_true ha
  have H1 := fun W => Lib.hid (r1_size a ha W)
  have H2 := fun W => Lib.hid (r1_size 10 (by decide) W)
  have e10 : (((10 : Int).natAbs : Nat) : Int) = 10 := rfl
  rw [e10] at H2
  obtain ⟨k, hk⟩ : ∃ k, k = a.natAbs := ⟨_, rfl⟩
  rw [← hk] at H1
  have hkb : k ≤ 9223372036854775808 := by omega
  have H3 := fun W => Lib.hid (r1_wide k hkb W)
  obtain ⟨hi, hhi⟩ : ∃ hi, hi = k * 10 / 18446744073709551616 := ⟨_, rfl⟩
  obtain ⟨lo, hlo⟩ : ∃ lo, lo = k * 10 % 18446744073709551616 := ⟨_, rfl⟩
  rw [← hhi, ← hlo] at H3
  have H4 := fun m W => Lib.hid (r1_signed lo (by omega) m W)
  obtain ⟨m, hm⟩ : ∃ m, decide (a < 0) = m := ⟨_, rfl⟩
  have hm2 : (m != decide ((10 : Int) < 0)) = m := by cases m <;> rfl
  have hm3 : (m != false) = m := by cases m <;> rfl
  by_cases h0 : hi = 0
  · have t0 : decide (0 < (hi : Int)) = false := decide_eq_false (by omega)
    have t1 : decide (0 < hi) = false := decide_eq_false (by omega)
    have e : sgnV m lo = a * 10 := by
      rw [← hm]
      unfold sgnV
      split
      · rename_i h
        have : a < 0 := of_decide_eq_true h
        omega
      · rename_i h
        have : ¬ a < 0 := fun hh => h (decide_eq_true hh)
        omega
    rw [← e]
    have H4 := fun W => H4 m W
    unfold tellV at H4 ⊢
    obtain ⟨b, hb⟩ : ∃ b, fits64 (sgnV m lo) = b := ⟨_, rfl⟩
    obtain ⟨x, hx⟩ : ∃ x, (if b = true then sgnV m lo else 0) = x := ⟨_, rfl⟩
    rw [hb, hx] at H4 ⊢
    clear hk hkb hhi hlo h0 e10 e ha ha' hm2 hb hx
    go_enter Tryd.func20, Tryd.ntmps20
    go_wp2_with fail
    refine (H1 _).out.mono ?_
    rintro e w1 ⟨rfl, rfl⟩
    go_wp2_with fail
    refine (H2 _).out.mono ?_
    rintro e w1 ⟨rfl, rfl⟩
    go_wp2_with fail
    refine (H3 _).out.mono ?_
    rintro e w1 ⟨rfl, o1⟩
    have O1 := Lib.hid o1
    clear o1
    go_wp2_with fail
    refine (H4 _).out.mono ?_
    rintro e w1 ⟨rfl, rfl⟩
    go_wp2_with fail
    go_returns
    exact ⟨rfl, O1.out⟩
  · have t0 : decide (0 < (hi : Int)) = true := decide_eq_true (by omega)
    have t1 : decide (0 < hi) = true := decide_eq_true (by omega)
    have e : fits64 (a * 10) = false := decide_eq_false (by omega)
    have e2 : tellV (a * 10) = .tuple #[.int .i64 0, .bool false] := by unfold tellV; rw [e]; rfl
    rw [e2]
    clear hk hkb hhi hlo h0 e10 e e2 ha ha' hm2 hm3 hm
    go_enter Tryd.func20, Tryd.ntmps20
    go_wp2_with fail
    refine (H1 _).out.mono ?_
    rintro e w1 ⟨rfl, rfl⟩
    go_wp2_with fail
    refine (H2 _).out.mono ?_
    rintro e w1 ⟨rfl, rfl⟩
    go_wp2_with fail
    refine (H3 _).out.mono ?_
    rintro e w1 ⟨rfl, o1⟩
    have O1 := Lib.hid o1
    clear o1
    go_wp2_with fail
    go_returns
    exact ⟨rfl, O1.out⟩
/-- Less a digit. -/
theorem r1_sub (a : Int) (ha : fits64 a = true) (x : Nat) (hx : x ≤ 9) (w : World) : Calls Tryd.prog 21 #[.int .i64 a, .int .i64 (x : Int)] w fun e w' => e = .returned (tellV (a - x)) ∧ w = w' := by
  have ha' : -9223372036854775808 ≤ a ∧ a ≤ 9223372036854775807 := of_decide_eq_true ha
  have t0 : decide ((x : Int) < 0) = false := decide_eq_false (by omega)
  have ww1 : IntKind.i64.wrap (-9223372036854775808 + (x : Int)) = -9223372036854775808 + (x : Int) := by rw [IntKind.wrap_i64]; omega
  unfold tellV
  obtain ⟨f, hf⟩ : ∃ f, fits64 (a - x) = f := ⟨_, rfl⟩
  have hf2 : f = decide (-9223372036854775808 ≤ a - x ∧ a - x ≤ 9223372036854775807) := hf.symm
  obtain ⟨z, hz⟩ : ∃ z, decide (0 < (x : Int)) = z := ⟨_, rfl⟩
  have hz2 : decide (0 < x) = z := by rw [← hz]; exact decide_eq_decide.2 (by omega)
  rw [hf]
  cases f with
  | true =>
    have hf3 := of_decide_eq_true hf
    have t2 : decide (a < -9223372036854775808 + (x : Int)) = false := decide_eq_false (by omega)
    have WW := Lib.hid (show wrap64 (a - (x : Int)) = a - (x : Int) by unfold wrap64; omega)
    rw [if_pos rfl]
    clear hf hf2 hf3 ha ha' hx
    cases z with
    | true =>
      go_enter Tryd.func21, Tryd.ntmps21
      go_wp2_with fail
      go_returns
      refine ⟨?_, rfl⟩
      show Ending.returned (.tuple #[.int .i64 (wrap64 (a - (x : Int))), .bool true]) = _
      rw [WW.out]
    | false =>
      go_enter Tryd.func21, Tryd.ntmps21
      go_wp2_with fail
      go_returns
      refine ⟨?_, rfl⟩
      show Ending.returned (.tuple #[.int .i64 (wrap64 (a - (x : Int))), .bool true]) = _
      rw [WW.out]
  | false =>
    have hf3 := of_decide_eq_false hf
    have t2 : decide (a < -9223372036854775808 + (x : Int)) = true := decide_eq_true (by omega)
    obtain rfl : z = true := by rw [← hz]; exact decide_eq_true (by omega)
    rw [if_neg (by decide)]
    clear hf hf2 hf3 ha ha' hx
    go_enter Tryd.func21, Tryd.ntmps21
    go_wp2_with fail
    go_returns
    exact ⟨rfl, rfl⟩
theorem r1_neg (a : Int) (ha : fits64 a = true) (w : World) : Calls Tryd.prog 22 #[.int .i64 a] w fun e w' => e = .returned (tellV (-a)) ∧ w = w' := by
  have ha' : -9223372036854775808 ≤ a ∧ a ≤ 9223372036854775807 := of_decide_eq_true ha
  by_cases hl : a = -9223372036854775808
  · subst hl
    have e9 : tellV (- -9223372036854775808) = .tuple #[.int .i64 0, .bool false] := rfl
    rw [e9]
    clear e9 ha ha'
    go_enter Tryd.func22, Tryd.ntmps22
    go_wp2_with fail
    go_returns
    exact ⟨rfl, rfl⟩
  have tl : (a == -9223372036854775808) = false := by simpa using hl
  have hf : fits64 (-a) = true := decide_eq_true (by omega)
  have ww : IntKind.i64.wrap (-a) = -a := by rw [IntKind.wrap_i64]; omega
  unfold tellV
  rw [hf, if_pos rfl]
  clear hl hf ha ha'
  go_enter Tryd.func22, Tryd.ntmps22
  go_wp2_with fail
  go_returns
  exact ⟨rfl, rfl⟩
end Go.Proofs.YtkpndnjnckaanaaDoor
