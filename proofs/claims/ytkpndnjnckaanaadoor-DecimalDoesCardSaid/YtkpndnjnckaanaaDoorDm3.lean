/- Decimal: numbers of 64 bits: fixnum.Add, fixnum.Mul by ten. Conditions: the numbers are of 64 bits. -/
import Derived.Test.YtkpndnjnckaanaaDoorGen
import Derived.Test.YtkpndnjnckaanaaDoorRows
import Derived.Test.YtkpndnjnckaanaaDoorDm1
import Derived.Shelf.Bits.Mul64
namespace Go.Proofs.YtkpndnjnckaanaaDoor
set_option linter.unusedVariables false
set_option linter.unusedSimpArgs false
open Go.RowKit

set_option maxRecDepth 100000 in
set_option maxHeartbeats 4000000 in
theorem f_mul64 (x y : Nat) (hx : x < 18446744073709551616) (hy : y < 18446744073709551616) (w : World) : Calls Tryd.prog 25 #[.int .u64 (x : Int), .int .u64 (y : Int)] w fun e w' => e = .returned (.tuple #[.int .u64 ((x * y / 18446744073709551616 : Nat) : Int), .int .u64 ((x * y % 18446744073709551616 : Nat) : Int)]) ∧ w = w' := by
  obtain ⟨bd, bt, bw, hhi⟩ := Lib.mul64_hi x y hx hy
  have ba := Lib.half_mul_le (a := x / 4294967296) (b := y / 4294967296) (by omega) (by omega)
  have bb := Lib.half_mul_le (a := x / 4294967296) (b := y % 4294967296) (by omega) (by omega)
  have bc := Lib.half_mul_le (a := x % 4294967296) (b := y / 4294967296) (by omega) (by omega)
  have ba' : x / 4294967296 * (y / 4294967296) < 18446744073709551616 := by omega
  have bb' : x / 4294967296 * (y % 4294967296) < 18446744073709551616 := by omega
  have bc' : x % 4294967296 * (y / 4294967296) < 18446744073709551616 := by omega
  have bh1 : x / 4294967296 * (y / 4294967296) + (x / 4294967296 * (y % 4294967296) + x % 4294967296 * (y % 4294967296) / 4294967296) / 4294967296 < 18446744073709551616 := by omega
  have bh : x / 4294967296 * (y / 4294967296) + (x / 4294967296 * (y % 4294967296) + x % 4294967296 * (y % 4294967296) / 4294967296) / 4294967296 + ((x / 4294967296 * (y % 4294967296) + x % 4294967296 * (y % 4294967296) / 4294967296) % 4294967296 + x % 4294967296 * (y / 4294967296)) / 4294967296 < 18446744073709551616 := by omega
  go_enter Tryd.func25, Tryd.ntmps25
  go_wp2_with fail
  simp only [Mul64.maskN x hx, Mul64.maskN y hy, Mul64.divN, Mul64.mulN, Mul64.addN, Mul64.wrapN _ bd, Mul64.wrapN _ bb', Mul64.wrapN _ bt, Mul64.maskN _ bt, Mul64.wrapN _ bc', Mul64.wrapN _ bw, Mul64.wrapN _ ba', Mul64.wrapN _ bh1, Mul64.wrapN _ bh, Mul64.wrapM (x * y)]
  rw [hhi]
  go_returns
  exact ⟨rfl, rfl⟩
theorem f_told (n : Int) (b : Bool) (w : World) : Calls Tryd.prog 36 #[.int .i64 n, .bool b] w fun e w' => e = .returned (.tuple #[.int .i64 (if b then n else 0), .bool b]) ∧ w = w' := by
  cases b
  · go_enter Tryd.func36, Tryd.ntmps36
    go_wp2_with fail
    go_returns
    exact ⟨rfl, rfl⟩
  · go_enter Tryd.func36, Tryd.ntmps36
    go_wp2_with fail
    go_returns
    exact ⟨rfl, rfl⟩
/-- A number and whether it is one. -/
def tellV (v : Int) : Value := .tuple #[.int .i64 (if fits64 v then v else 0), .bool (fits64 v)]
set_option maxRecDepth 100000 in
theorem f_add (a b : Int) (ha : fits64 a = true) (hb : fits64 b = true) (w : World) : Calls Tryd.prog 18 #[.int .i64 a, .int .i64 b] w fun e w' => e = .returned (tellV (a + b)) ∧ w = w' := by
  have ha' : -9223372036854775808 ≤ a ∧ a ≤ 9223372036854775807 := of_decide_eq_true ha
  have hb' : -9223372036854775808 ≤ b ∧ b ≤ 9223372036854775807 := of_decide_eq_true hb
  obtain ⟨s, hs⟩ : ∃ s, IntKind.i64.wrap (a + b) = s := ⟨_, rfl⟩
  have hs2 := hs
  rw [IntKind.wrap_i64] at hs2
  obtain ⟨t, ht⟩ : ∃ t, fits64 (a + b) = t := ⟨_, rfl⟩
  have hv : tellV (a + b) = .tuple #[.int .i64 (if t then s else 0), .bool t] := by
    unfold tellV
    rw [ht]
    cases t with
    | false => rfl
    | true =>
      have h1 : -9223372036854775808 ≤ a + b ∧ a + b ≤ 9223372036854775807 := of_decide_eq_true ht
      rw [if_pos rfl, if_pos rfl, show a + b = s by omega]
  have hcmp : (decide (a < s) == decide (0 < b)) = t := by
    rw [← ht]
    unfold fits64
    by_cases h1 : -9223372036854775808 ≤ a + b ∧ a + b ≤ 9223372036854775807
    · rw [decide_eq_true h1]
      by_cases h2 : 0 < b
      · rw [decide_eq_true h2, decide_eq_true (by omega)]; rfl
      · rw [decide_eq_false h2, decide_eq_false (by omega)]; rfl
    · rw [decide_eq_false h1]
      by_cases h2 : 0 < b
      · rw [decide_eq_true h2, decide_eq_false (by omega)]; rfl
      · rw [decide_eq_false h2, decide_eq_true (by omega)]; rfl
  rw [hv]
  have H := fun W => Lib.hid (f_told s t W)
  clear ha hb ha' hb' hs2 hv ht
  obtain ⟨x, hx⟩ : ∃ x, (if t = true then s else 0) = x := ⟨_, rfl⟩
  rw [hx] at H ⊢
  clear hx
  go_enter Tryd.func18, Tryd.ntmps18
  go_wp2_with fail
  refine (H _).out.mono ?_
  rintro e w1 ⟨rfl, rfl⟩
  go_wp2_with fail
  go_returns
  exact ⟨rfl, rfl⟩
theorem f_size (a : Int) (ha : fits64 a = true) (w : World) : Calls Tryd.prog 26 #[.int .i64 a] w fun e w' => e = .returned (.int .u64 (a.natAbs : Nat)) ∧ w = w' := by
  have ha' : -9223372036854775808 ≤ a ∧ a ≤ 9223372036854775807 := of_decide_eq_true ha
  obtain ⟨k, hk⟩ : ∃ k, k = a.natAbs := ⟨_, rfl⟩
  rw [← hk]
  by_cases h0 : a < 0
  · have t1 : decide (a < 0) = true := by simpa using h0
    obtain ⟨u, hu⟩ : ∃ u, IntKind.u64.wrap a = u := ⟨_, rfl⟩
    have hu2 := hu
    rw [IntKind.wrap_u64] at hu2
    have w1 : IntKind.u64.wrap (-u) = (k : Int) := by rw [IntKind.wrap_u64]; omega
    clear hk ha ha' h0 hu2
    go_enter Tryd.func26, Tryd.ntmps26
    go_wp2_with fail
    go_returns
    exact ⟨rfl, rfl⟩
  · have t1 : decide (a < 0) = false := by simpa using h0
    have w1 : IntKind.u64.wrap a = (k : Int) := by rw [IntKind.wrap_u64]; omega
    clear hk ha ha' h0
    go_enter Tryd.func26, Tryd.ntmps26
    go_wp2_with fail
    go_returns
    exact ⟨rfl, rfl⟩
theorem f_signed (n : Nat) (hn : n < 18446744073709551616) (m : Bool) (w : World) : Calls Tryd.prog 27 #[.int .u64 (n : Int), .bool m] w fun e w' => e = .returned (tellV (sgnV m n)) ∧ w = w' := by
  obtain ⟨s, hs⟩ : ∃ s, IntKind.i64.wrap (n : Int) = s := ⟨_, rfl⟩
  have hs2 := hs
  rw [IntKind.wrap_i64] at hs2
  obtain ⟨t, ht⟩ : ∃ t, fits64 (sgnV m n) = t := ⟨_, rfl⟩
  cases m with
  | false =>
    have hv : tellV (sgnV false n) = .tuple #[.int .i64 (if t then s else 0), .bool t] := by
      unfold tellV
      rw [ht]
      cases t with
      | false => rfl
      | true =>
        have h1 : -9223372036854775808 ≤ (n : Int) ∧ (n : Int) ≤ 9223372036854775807 := of_decide_eq_true ht
        rw [if_pos rfl, if_pos rfl, show sgnV false n = s by show (n : Int) = s; omega]
    have hc : decide ((n : Int) ≤ 9223372036854775807) = t := by
      rw [← ht]
      show _ = decide (-9223372036854775808 ≤ (n : Int) ∧ (n : Int) ≤ 9223372036854775807)
      exact decide_eq_decide.2 (by omega)
    rw [hv]
    have H := fun W => Lib.hid (f_told s t W)
    clear hn hs2 ht hv
    obtain ⟨x, hx⟩ : ∃ x, (if t = true then s else 0) = x := ⟨_, rfl⟩
    rw [hx] at H ⊢
    clear hx
    go_enter Tryd.func27, Tryd.ntmps27
    go_wp2_with fail
    refine (H _).out.mono ?_
    rintro e w1 ⟨rfl, rfl⟩
    go_wp2_with fail
    go_returns
    exact ⟨rfl, rfl⟩
  | true =>
    obtain ⟨r, hr⟩ : ∃ r, IntKind.i64.wrap (-s) = r := ⟨_, rfl⟩
    have hr2 := hr
    rw [IntKind.wrap_i64] at hr2
    have hv : tellV (sgnV true n) = .tuple #[.int .i64 (if t then r else 0), .bool t] := by
      unfold tellV
      rw [ht]
      cases t with
      | false => rfl
      | true =>
        have h1 : -9223372036854775808 ≤ -(n : Int) ∧ -(n : Int) ≤ 9223372036854775807 := of_decide_eq_true ht
        rw [if_pos rfl, if_pos rfl, show sgnV true n = r by show -(n : Int) = r; omega]
    have hc : decide ((n : Int) ≤ 9223372036854775808) = t := by
      rw [← ht]
      show _ = decide (-9223372036854775808 ≤ -(n : Int) ∧ -(n : Int) ≤ 9223372036854775807)
      exact decide_eq_decide.2 (by omega)
    rw [hv]
    have H := fun W => Lib.hid (f_told r t W)
    clear hn hs2 ht hv hr2
    obtain ⟨x, hx⟩ : ∃ x, (if t = true then r else 0) = x := ⟨_, rfl⟩
    rw [hx] at H ⊢
    clear hx
    go_enter Tryd.func27, Tryd.ntmps27
    go_wp2_with fail
    refine (H _).out.mono ?_
    rintro e w1 ⟨rfl, rfl⟩
    go_wp2_with fail
    go_returns
    exact ⟨rfl, rfl⟩
set_option maxRecDepth 100000 in
theorem f_mul10 (a : Int) (ha : fits64 a = true) (w : World) : Calls Tryd.prog 12 #[.int .i64 a, .int .i64 10] w fun e w' => e = .returned (tellV (a * 10)) ∧ w = w' := by
  have ha' : -9223372036854775808 ≤ a ∧ a ≤ 9223372036854775807 := of_decide_eq_true ha
  have H1 := fun W => Lib.hid (f_size a ha W)
  have H2 := fun W => Lib.hid (f_size 10 (by decide) W)
  have e10 : (((10 : Int).natAbs : Nat) : Int) = 10 := rfl
  rw [e10] at H2
  obtain ⟨k, hk⟩ : ∃ k, k = a.natAbs := ⟨_, rfl⟩
  rw [← hk] at H1
  have hkb : k ≤ 9223372036854775808 := by omega
  have H3 := fun W => Lib.hid (f_mul64 k 10 (by omega) (by omega) W)
  obtain ⟨hi, hhi⟩ : ∃ hi, hi = k * 10 / 18446744073709551616 := ⟨_, rfl⟩
  obtain ⟨lo, hlo⟩ : ∃ lo, lo = k * 10 % 18446744073709551616 := ⟨_, rfl⟩
  rw [← hhi, ← hlo] at H3
  have H4 := fun m W => Lib.hid (f_signed lo (by omega) m W)
  have e10' : ((10 : Nat) : Int) = 10 := rfl
  rw [e10'] at H3
  obtain ⟨m, hm⟩ : ∃ m, decide (a < 0) = m := ⟨_, rfl⟩
  have hm2 : (m != decide ((10 : Int) < 0)) = m := by cases m <;> rfl
  have hm3 : (m != false) = m := by cases m <;> rfl
  by_cases h0 : hi = 0
  · have t0 : ((hi : Int) != 0) = false := by simp; omega
    have e : sgnV m lo = a * 10 := by
      rw [← hm]
      unfold sgnV
      split
      · rename_i h
        have : a < 0 := of_decide_eq_true h
        omega
      · rename_i h
        have : ¬ a < 0 := fun hh => h (decide_eq_true hh)
        omega
    rw [← e]
    have H4 := fun W => H4 m W
    unfold tellV at H4 ⊢
    obtain ⟨b, hb⟩ : ∃ b, fits64 (sgnV m lo) = b := ⟨_, rfl⟩
    obtain ⟨x, hx⟩ : ∃ x, (if b = true then sgnV m lo else 0) = x := ⟨_, rfl⟩
    rw [hb, hx] at H4 ⊢
    clear hk hkb hhi hlo h0 e10 e10' e ha ha' hm2 hb hx
    go_enter Tryd.func12, Tryd.ntmps12
    go_wp2_with fail
    refine (H1 _).out.mono ?_
    rintro e w1 ⟨rfl, rfl⟩
    go_wp2_with fail
    refine (H2 _).out.mono ?_
    rintro e w1 ⟨rfl, rfl⟩
    go_wp2_with fail
    refine (H3 _).out.mono ?_
    rintro e w1 ⟨rfl, rfl⟩
    go_wp2_with fail
    refine (H4 _).out.mono ?_
    rintro e w1 ⟨rfl, rfl⟩
    go_wp2_with fail
    go_returns
    exact ⟨rfl, rfl⟩
  · have t0 : ((hi : Int) != 0) = true := by simp; omega
    have e : fits64 (a * 10) = false := decide_eq_false (by omega)
    have e2 : tellV (a * 10) = .tuple #[.int .i64 0, .bool false] := by unfold tellV; rw [e]; rfl
    rw [e2]
    clear hk hkb hhi hlo h0 e10 e10' e e2 ha ha' hm2 hm3 hm
    go_enter Tryd.func12, Tryd.ntmps12
    go_wp2_with fail
    refine (H1 _).out.mono ?_
    rintro e w1 ⟨rfl, rfl⟩
    go_wp2_with fail
    refine (H2 _).out.mono ?_
    rintro e w1 ⟨rfl, rfl⟩
    go_wp2_with fail
    refine (H3 _).out.mono ?_
    rintro e w1 ⟨rfl, rfl⟩
    go_wp2_with fail
    go_returns
    exact ⟨rfl, rfl⟩
end Go.Proofs.YtkpndnjnckaanaaDoor
