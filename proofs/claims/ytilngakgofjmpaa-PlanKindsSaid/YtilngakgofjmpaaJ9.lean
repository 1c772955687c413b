/- Numbers of 64 bits: the product of two small ones (fixnum.Mul); the sum of a list (fixnum.Sum). Conditions: see each. -/
import Derived.Test.YtilngakgofjmpaaJ1
import Derived.Test.YtilngakgofjmpaaRows
import Derived.Shelf.Bits.Mul64
import Derived.Laws.Externs
namespace Go.Proofs.Ytilngakgofjmpaa
set_option linter.unusedVariables false
set_option linter.unusedSimpArgs false
open Go.RowKit

set_option maxRecDepth 100000 in
set_option maxHeartbeats 4000000 in
theorem f_mul64 (x y : Nat) (hx : x < 18446744073709551616) (hy : y < 18446744073709551616) (w : World) : Calls Try.prog 141 #[.int .u64 (x : Int), .int .u64 (y : Int)] w fun e w' => e = .returned (.tuple #[.int .u64 ((x * y / 18446744073709551616 : Nat) : Int), .int .u64 ((x * y % 18446744073709551616 : Nat) : Int)]) ∧ w' = w := by
  obtain ⟨bd, bt, bw, hhi⟩ := Lib.mul64_hi x y hx hy
  have ba := Lib.half_mul_le (a := x / 4294967296) (b := y / 4294967296) (by omega) (by omega)
  have bb := Lib.half_mul_le (a := x / 4294967296) (b := y % 4294967296) (by omega) (by omega)
  have bc := Lib.half_mul_le (a := x % 4294967296) (b := y / 4294967296) (by omega) (by omega)
  have ba' : x / 4294967296 * (y / 4294967296) < 18446744073709551616 := by omega
  have bb' : x / 4294967296 * (y % 4294967296) < 18446744073709551616 := by omega
  have bc' : x % 4294967296 * (y / 4294967296) < 18446744073709551616 := by omega
  have bh1 : x / 4294967296 * (y / 4294967296) + (x / 4294967296 * (y % 4294967296) + x % 4294967296 * (y % 4294967296) / 4294967296) / 4294967296 < 18446744073709551616 := by omega
  have bh : x / 4294967296 * (y / 4294967296) + (x / 4294967296 * (y % 4294967296) + x % 4294967296 * (y % 4294967296) / 4294967296) / 4294967296 + ((x / 4294967296 * (y % 4294967296) + x % 4294967296 * (y % 4294967296) / 4294967296) % 4294967296 + x % 4294967296 * (y / 4294967296)) / 4294967296 < 18446744073709551616 := by omega
  go_enter Try.func141, Try.ntmps141
  go_wp2_with fail
  simp only [Mul64.maskN x hx, Mul64.maskN y hy, Mul64.divN, Mul64.mulN, Mul64.addN, Mul64.wrapN _ bd, Mul64.wrapN _ bb', Mul64.wrapN _ bt, Mul64.maskN _ bt, Mul64.wrapN _ bc', Mul64.wrapN _ bw, Mul64.wrapN _ ba', Mul64.wrapN _ bh1, Mul64.wrapN _ bh, Mul64.wrapM (x * y)]
  rw [hhi]
  go_returns
  exact ⟨rfl, rfl⟩
theorem f_add64 (x y c : Nat) (hc : c ≤ 1) (w : World) : (callFunc 144 #[.int .u64 (x : Int), .int .u64 (y : Int), .int .u64 (c : Int)]).run Try.prog w =
      .ok (.value (.tuple #[.int .u64 (((x + y + c) % 18446744073709551616 : Nat) : Int), .int .u64 (((x + y + c) / 18446744073709551616 : Nat) : Int)])) w := by
  rw [run_callFunc_extern Try.func144 (by kernel_rfl) (by kernel_rfl) (by kernel_rfl) (e := add64Entry) (by kernel_rfl), run_add64 x y c (by omega) (by omega) (by omega) (by omega)]
  simp only [Result.andThen]
  congr 5 <;> omega

/-! ### fixnum -/
theorem f_size (a : Int) (h0 : 0 ≤ a) (h1 : a ≤ 9223372036854775807) (w : World) : Calls Try.prog 142 #[.int .i64 a] w fun e w' => e = .returned (.int .u64 a) ∧ w' = w := by
  have t1 : decide (a < 0) = false := by simp; omega
  have w1 : IntKind.u64.wrap a = a := by rw [IntKind.wrap_u64]; omega
  clear h0 h1
  go_enter Try.func142, Try.ntmps142
  go_wp2_with fail
  go_returns
  exact ⟨rfl, rfl⟩
theorem f_told (n : Int) (b : Bool) (w : World) : Calls Try.prog 145 #[.int .i64 n, .bool b] w fun e w' => e = .returned (.tuple #[.int .i64 (if b then n else 0), .bool b]) ∧ w' = w := by
  cases b
  · go_enter Try.func145, Try.ntmps145
    go_wp2_with fail
    go_returns
    exact ⟨rfl, rfl⟩
  · go_enter Try.func145, Try.ntmps145
    go_wp2_with fail
    go_returns
    exact ⟨rfl, rfl⟩
theorem f_signed (n : Int) (h0 : 0 ≤ n) (h1 : n ≤ 9223372036854775807) (w : World) : Calls Try.prog 143 #[.int .u64 n, .bool false] w fun e w' => e = .returned (.tuple #[.int .i64 n, .bool true]) ∧ w' = w := by
  have t1 : decide (n ≤ 9223372036854775807) = true := by simpa using h1
  have w1 : IntKind.i64.wrap n = n := by rw [IntKind.wrap_i64]; omega
  have H := fun W => Lib.hid (f_told n true W)
  clear h0 h1
  go_enter Try.func143, Try.ntmps143
  go_wp2_with fail
  refine (H _).out.mono ?_
  rintro e w1 ⟨rfl, rfl⟩
  go_wp2_with fail
  go_returns
  exact ⟨rfl, rfl⟩
set_option maxRecDepth 100000 in
/-- The product of two small numbers. -/
theorem f_mul (a b : Int) (ha : 1 ≤ a ∧ a ≤ 1000000000) (hb : 1 ≤ b ∧ b ≤ 1000000000) (w : World) : Calls Try.prog 114 #[.int .i64 a, .int .i64 b] w fun e w' => e = .returned (.tuple #[.int .i64 (a * b), .bool true]) ∧ w' = w := by
  obtain ⟨x, rfl⟩ : ∃ x : Nat, a = x := ⟨a.toNat, by omega⟩
  obtain ⟨y, rfl⟩ : ∃ y : Nat, b = y := ⟨b.toNat, by omega⟩
  have hxy : x * y ≤ 1000000000 * 1000000000 := Nat.mul_le_mul (by omega) (by omega)
  have H1 := fun W => Lib.hid (f_size x (by omega) (by omega) W)
  have H2 := fun W => Lib.hid (f_size y (by omega) (by omega) W)
  have H3 := fun W => Lib.hid (f_mul64 x y (by omega) (by omega) W)
  have e1 : x * y / 18446744073709551616 = 0 := by omega
  have e2 : x * y % 18446744073709551616 = x * y := by omega
  rw [e1, e2] at H3
  have e3 : (x : Int) * (y : Int) = ((x * y : Nat) : Int) := (Int.natCast_mul x y).symm
  rw [e3]
  obtain ⟨z, hz⟩ : ∃ z, x * y = z := ⟨_, rfl⟩
  rw [hz] at H3 hxy ⊢
  have H4 := fun W => Lib.hid (f_signed z (by omega) (by omega) W)
  have t1 : decide ((x : Int) < 0) = false := by simp
  have t2 : decide ((y : Int) < 0) = false := by simp
  have t1' : decide (x < 0) = false := by simp
  clear e1 e2 e3 hz hxy ha hb
  go_enter Try.func114, Try.ntmps114
  go_wp2_with fail
  refine (H1 _).out.mono ?_
  rintro e w1 ⟨rfl, rfl⟩
  go_wp2_with fail
  refine (H2 _).out.mono ?_
  rintro e w1 ⟨rfl, rfl⟩
  go_wp2_with fail
  refine (H3 _).out.mono ?_
  rintro e w1 ⟨rfl, rfl⟩
  go_wp2_with fail
  refine (H4 _).out.mono ?_
  rintro e w1 ⟨rfl, rfl⟩
  go_wp2_with fail
  go_returns
  exact ⟨rfl, rfl⟩
end Go.Proofs.Ytilngakgofjmpaa

/- Numbers of 64 bits: the sum of a list of small ones (fixnum.Sum). Conditions: none below nought. -/
namespace Go.Proofs.Ytilngakgofjmpaa
set_option linter.unusedVariables false
set_option linter.unusedSimpArgs false
open Go.RowKit

def sumI (ns : List Int) : Int := ns.foldl (· + ·) 0
theorem sumI_snoc (ns : List Int) (n : Int) : sumI (ns ++ [n]) = sumI ns + n := by simp [sumI]
/-- A list of numbers that is read. -/
def IntAt (w : World) (va : Option Addr) (ns : List Int) : Prop := ∀ k n, ns[k]? = some n → ∃ g, va = some ⟨g, 0, none⟩ ∧ g < w.heap.size ∧ w.cell? ⟨g, k, none⟩ = some (.int .i64 n)
theorem IntAt.only {w w' : World} {va : Option Addr} {l : List Int} (h : IntAt w va l) {S : Nat → Prop} (o : Only S w w') (hS : ∀ i, i < w.heap.size → ¬ S i) : IntAt w' va l := fun k x hk => by
  obtain ⟨g, h0, h1, c⟩ := h k x hk
  exact ⟨g, h0, Nat.lt_of_lt_of_le h1 o.size, o.cell c (hS g h1)⟩
theorem sumI_bd : ∀ {ns : List Int} {k : Nat}, (∀ n ∈ ns, 0 ≤ n ∧ n ≤ 1000000000000000000) → k ≤ ns.length → 0 ≤ sumI (ns.take k) ∧ sumI (ns.take k) ≤ k * 1000000000000000000 := by
  intro ns k hb hk
  induction k with
  | zero => simp [sumI]
  | succ k ih =>
    have ih := ih (by omega)
    obtain ⟨n, hn⟩ : ∃ n, ns[k]? = some n := ⟨_, List.getElem?_eq_getElem (by omega)⟩
    rw [List.take_add_one, hn, Option.toList_some, sumI_snoc]
    have := hb n (List.mem_of_getElem? hn)
    omega

set_option maxRecDepth 100000 in
set_option maxHeartbeats 4000000 in
theorem f_sum (w : World) (va : Option Addr) (cap : Nat) (ns : List Int) (hl : ns.length ≤ 1099511627776) (hb : ∀ n ∈ ns, 0 ≤ n ∧ n ≤ 1000000000000000000) (hat : IntAt w va ns) :
    Calls Try.prog 115 #[.slice va ns.length cap] w fun e w' => e = .returned (.tuple #[.int .i64 (if sumI ns ≤ 9223372036854775807 then sumI ns else 0), .bool (decide (sumI ns ≤ 9223372036854775807))]) ∧ Only (fun _ => False) w w' := by
  obtain ⟨m, hm⟩ : ∃ m, m = ns.length := ⟨_, rfl⟩
  rw [← hm] at hl ⊢
  obtain ⟨S, hS⟩ : ∃ S, sumI ns = S := ⟨_, rfl⟩
  rw [hS]
  obtain ⟨z, hz⟩ : ∃ z : Int, (if S ≤ 9223372036854775807 then S else 0) = z := ⟨_, rfl⟩
  obtain ⟨d, hd⟩ : ∃ d : Bool, decide (S ≤ 9223372036854775807) = d := ⟨_, rfl⟩
  rw [hz, hd]
  have HZ := Lib.hid hz
  have HD := Lib.hid hd
  clear hz hd
  have HM := Lib.hid hm
  have HS := Lib.hid hS
  have HA := Lib.hid hat
  have HB := Lib.hid hb
  clear hm hS hat hb
  go_enter Try.func115, Try.ntmps115
  go_wp2_with fail
  go_loopw [4, 5, 11] (fun s4 s5 s11 wr => ∃ (k : Nat) (x : Nat), k ≤ m ∧ s11 = .int .i64 k ∧ (x : Int) = sumI (ns.take k) ∧ s4 = .int .u64 ((x / 18446744073709551616 : Nat) : Int) ∧ s5 = .int .u64 ((x % 18446744073709551616 : Nat) : Int) ∧ Only (fun _ => False) w wr) (fun _ _ s11 _ => m - (intOf s11).toNat)
  case atStart => exact ⟨0, 0, by omega, rfl, rfl, rfl, rfl, Only.refl _ _⟩
  case round =>
    obtain ⟨k, x, hk, rfl, hx, e4, e5, ho⟩ := hrel
    obtain ⟨hi, hhi⟩ : ∃ hi, x / 18446744073709551616 = hi := ⟨_, rfl⟩
    obtain ⟨lo, hlo⟩ : ∃ lo, x % 18446744073709551616 = lo := ⟨_, rfl⟩
    rw [hhi] at e4
    rw [hlo] at e5
    subst e4 e5
    have hbd := sumI_bd (k := k) HB.out (by rw [← HM.out]; exact hk)
    rw [← hx] at hbd
    have HO := Lib.hid ho
    have HX := Lib.hid (⟨hx, hhi, hlo⟩ : _ ∧ _ ∧ _)
    by_cases hlt : k < m
    · have t1 : decide (k < m) = true := by simpa using hlt
      have i1 : (0 : Int) ≤ (k : Int) ∧ (k : Int) < (m : Int) := by omega
      have w1' : IntKind.i64.wrap ((k : Int) + 1) = (k : Int) + 1 := by rw [IntKind.wrap_i64]; omega
      obtain ⟨n, hn⟩ : ∃ n, ns[k]? = some n := ⟨_, List.getElem?_eq_getElem (by rw [← HM.out]; exact hlt)⟩
      have hnb := HB.out n (List.mem_of_getElem? hn)
      obtain ⟨g, rfl, hg, c0⟩ := (HA.out.only ho (fun _ _ => id)) k n hn
      have HN := Lib.hid hn
      obtain ⟨y, rfl⟩ : ∃ y : Nat, n = y := ⟨n.toNat, by omega⟩
      have hz : (y : Int) / 9223372036854775808 = 0 := by omega
      have w2 : IntKind.u64.wrap (y : Int) = (y : Int) := by rw [IntKind.wrap_u64]; omega
      have hA1 : ∀ w, (callFunc 144 #[.int .u64 (lo : Int), .int .u64 (y : Int), .int .u64 0]).run Try.prog w = .ok (.value (.tuple #[.int .u64 (((lo + y + 0) % 18446744073709551616 : Nat) : Int), .int .u64 (((lo + y + 0) / 18446744073709551616 : Nat) : Int)])) w := fun w => f_add64 lo y 0 (by decide) w
      have hA2 : ∀ w, (callFunc 144 #[.int .u64 (hi : Int), .int .u64 0, .int .u64 (((lo + y + 0) / 18446744073709551616 : Nat) : Int)]).run Try.prog w = .ok (.value (.tuple #[.int .u64 (((hi + 0 + (lo + y + 0) / 18446744073709551616) % 18446744073709551616 : Nat) : Int), .int .u64 (((hi + 0 + (lo + y + 0) / 18446744073709551616) / 18446744073709551616 : Nat) : Int)])) w := fun w => f_add64 hi 0 ((lo + y + 0) / 18446744073709551616) (by omega) w
      have HF := Lib.hid (show ((x + y : Nat) : Int) = sumI (ns.take (k + 1)) ∧ (x + y) % 18446744073709551616 = (lo + y + 0) % 18446744073709551616 ∧ (x + y) / 18446744073709551616 = (hi + 0 + (lo + y + 0) / 18446744073709551616) % 18446744073709551616 from by
        rw [List.take_add_one, HN.out, Option.toList_some, sumI_snoc, ← hx]
        omega)
      obtain ⟨lo', hlo'⟩ : ∃ lo', (lo + y + 0) % 18446744073709551616 = lo' := ⟨_, rfl⟩
      obtain ⟨cy, hcy⟩ : ∃ cy, (lo + y + 0) / 18446744073709551616 = cy := ⟨_, rfl⟩
      rw [hlo', hcy] at hA1 HF
      rw [hcy] at hA2
      obtain ⟨hi', hhi'⟩ : ∃ hi', (hi + 0 + cy) % 18446744073709551616 = hi' := ⟨_, rfl⟩
      rw [hhi'] at hA2 HF
      clear ho hn hx hhi hlo hbd hlo' hcy hhi'
      go_wp2_with fail
      go_roundw
      case rel => exact ⟨k + 1, x + y, by omega, by go_num, HF.out.1, by rw [HF.out.2.2], by rw [HF.out.2.1], HO.out⟩
      case measure => simp [intOf]; omega
    · have t1 : decide (k < m) = false := by simpa using hlt
      obtain rfl : k = m := by omega
      have hxS : (x : Int) = S := by
        rw [hx, ← HS.out, List.take_of_length_le (by rw [← HM.out]; exact Nat.le_refl _)]
      have whi : IntKind.i64.wrap (hi : Int) = (hi : Int) := by rw [IntKind.wrap_i64]; omega
      by_cases hs : x ≤ 9223372036854775807
      · obtain rfl : d = true := by rw [← HD.out]; simp; omega
        obtain rfl : z = (lo : Int) := by rw [← HZ.out, if_pos (by omega)]; omega
        obtain rfl : hi = 0 := by omega
        have wlo : IntKind.i64.wrap (lo : Int) = (lo : Int) := by rw [IntKind.wrap_i64]; omega
        have hq : (lo : Int) / 9223372036854775808 = 0 := by omega
        have HT := fun W => Lib.hid (show Calls Try.prog 145 #[.int .i64 (lo : Int), .bool true] W (fun e w' => e = .returned (.tuple #[.int .i64 (lo : Int), .bool true]) ∧ w' = W) from f_told (lo : Int) true W)
        clear hs hxS hx hhi hlo hbd hlt ho HX
        go_wp2_with fail
        refine (HT _).out.mono ?_
        rintro e w1 ⟨rfl, rfl⟩
        go_wp2_with fail
        go_returns
        exact ⟨rfl, HO.out⟩
      · obtain rfl : d = false := by rw [← HD.out]; simp; omega
        obtain rfl : z = 0 := by rw [← HZ.out, if_neg (by omega)]
        by_cases hl2 : lo ≤ 9223372036854775807
        · have wlo : IntKind.i64.wrap (lo : Int) = (lo : Int) := by rw [IntKind.wrap_i64]; omega
          have hq : (lo : Int) / 9223372036854775808 = 0 := by omega
          have tq : ((hi : Int) == 0) = false := by simp; omega
          have HT := fun W => Lib.hid (show Calls Try.prog 145 #[.int .i64 (lo : Int), .bool false] W (fun e w' => e = .returned (.tuple #[.int .i64 0, .bool false]) ∧ w' = W) from f_told (lo : Int) false W)
          have tq' : (hi == 0) = false := by simp; omega
          clear hs hxS hx hhi hlo hbd hlt ho HX hl2
          go_wp2_with fail
          refine (HT _).out.mono ?_
          rintro e w1 ⟨rfl, rfl⟩
          go_wp2_with fail
          go_returns
          exact ⟨rfl, HO.out⟩
        · obtain ⟨lz, hlz⟩ : ∃ lz : Int, (lo : Int) - 18446744073709551616 = lz := ⟨_, rfl⟩
          have wlo : IntKind.i64.wrap (lo : Int) = lz := by rw [IntKind.wrap_i64]; omega
          have hq : lz / 9223372036854775808 = -1 := by omega
          have tq : ((hi : Int) == -1) = false := by simp
          have HT := fun W => Lib.hid (show Calls Try.prog 145 #[.int .i64 lz, .bool false] W (fun e w' => e = .returned (.tuple #[.int .i64 0, .bool false]) ∧ w' = W) from f_told lz false W)
          clear hs hxS hx hhi hlo hbd hlt ho HX hl2 hlz
          go_wp2_with fail
          refine (HT _).out.mono ?_
          rintro e w1 ⟨rfl, rfl⟩
          go_wp2_with fail
          go_returns
          exact ⟨rfl, HO.out⟩
end Go.Proofs.Ytilngakgofjmpaa

/- Numbers of 64 bits: the document's sum of a list of small ones (by halves). Conditions: none below nought; at most 2^20 of them. -/
namespace Go.Proofs.Ytilngakgofjmpaa
set_option linter.unusedVariables false
set_option linter.unusedSimpArgs false
open Go.RowKit

end Go.Proofs.Ytilngakgofjmpaa
