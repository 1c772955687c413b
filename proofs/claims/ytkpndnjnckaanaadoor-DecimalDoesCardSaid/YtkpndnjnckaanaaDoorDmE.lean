/- Decimal: the walk of DecimalDoes. Condition: the number is of 64 bits; FormatInt's table is laid. -/
import Derived.Test.YtkpndnjnckaanaaDoorDmD
import Derived.Test.YtkpndnjnckaanaaDoorDmW
namespace Go.Proofs.YtkpndnjnckaanaaDoor
set_option linter.unusedVariables false
set_option linter.unusedSimpArgs false
open Go.RowKit Go.Shelf

set_option maxRecDepth 100000 in
set_option maxHeartbeats 4000000 in
theorem decimalDoes_walk (s : ByteArray) (hs : s.size ≤ 140737488351232) (n : Int) (hn : fits64 n = true) (p : Int) (w : World) (ht : Tb w) : Calls Tryd.prog 3 #[.string s, .int .i64 n, .int .i64 p] w fun e w' => e = .returned (.bool true) ∧ Gw w w' := by
  have HWK := Lib.hid (d_works w ht)
  have HT := Lib.hid ht
  clear ht
  by_cases h1 : s.size ≤ 1073741824
  case neg =>
    have t1 : decide (1073741824 < (s.size : Int)) = true := decide_eq_true (by omega)
    clear h1
    go_enter Tryd.func3, Tryd.ntmps3
    go_wp2_with fail
    refine HWK.out.mono ?_
    rintro e w1 ⟨rfl, o1⟩
    have O1 := Lib.hid o1
    clear o1
    go_wp2_with fail
    go_returns
    exact ⟨rfl, O1.out⟩
  have t1 : decide (1073741824 < (s.size : Int)) = false := decide_eq_false (by omega)
  have HP1 := fun W => d_parse s p (by omega) W
  have HP2 := fun W => r_parse s p (by omega) W
  obtain ⟨⟨x0, x1, x2⟩, hx⟩ : ∃ x, x = parseI s.data.toList p := ⟨_, rfl⟩
  rw [← hx] at HP1 HP2
  simp only at HP1 HP2
  have HP1 := fun W => Lib.hid (HP1 W)
  have HP2 := fun W => Lib.hid (HP2 W)
  have HQ1 := fun W (h : Tb W) => d_print n p hn W h
  have HQ2 := fun W => r_print n p hn W
  obtain ⟨⟨L, y1⟩, hy⟩ : ∃ y, y = printI n p := ⟨_, rfl⟩
  rw [← hy] at HQ1 HQ2
  simp only at HQ1 HQ2
  have HQ1 := fun W h => Lib.hid (HQ1 W h)
  have HQ2 := fun W => Lib.hid (HQ2 W)
  have s0 : (x0 == x0) = true := by simp
  have s1 : (x1 == x1) = true := by simp
  have s2 : (x2 == x2) = true := by simp
  have s3 : (y1 == y1) = true := by simp
  clear hx hy h1 hn hs
  go_enter Tryd.func3, Tryd.ntmps3
  go_wp2_with fail
  refine HWK.out.mono ?_
  rintro e w1 ⟨rfl, o1⟩
  have O1 := Lib.hid o1
  clear o1
  go_wp2_with fail
  refine (HP1 _).out.mono ?_
  rintro e w2 ⟨rfl, o2⟩
  have O2 := Lib.hid (O1.out.trans o2)
  clear o2
  go_wp2_with fail
  refine (HP2 _).out.mono ?_
  rintro e w3 ⟨rfl, o3⟩
  have O3 := Lib.hid (O2.out.trans o3)
  clear o3
  go_wp2_with fail
  refine ((HQ1 _ (HT.out.keep O3.out)).out).mono ?_
  rintro e w4 ⟨r1, rfl, hr1, o4⟩
  have O4 := Lib.hid (O3.out.trans o4)
  have HR1 := Lib.hid hr1
  clear o4 hr1
  go_wp2_with fail
  refine ((HQ2 _).out).mono ?_
  rintro e w5 ⟨r2, rfl, hr2, o5⟩
  have O5 := Lib.hid (O4.out.trans o5)
  obtain rfl : r2 = r1 := by rw [bytes_of hr2, bytes_of HR1.out]
  clear o5 hr2
  have s4 : (r2.toList == r2.toList) = true := by simp
  go_wp2_with fail
  go_returns
  exact ⟨rfl, O5.out⟩
namespace decimalDoes
theorem decimalDoes_walk (w : World) (s : ByteArray) (hs : s.size ≤ 140737488351232) (n : Int) (hn : (Lit.int .i64 n).wf = true) (p : Int) (_ : (Lit.int .i64 p).wf = true) (ht : Tb w) : Calls Tryd.prog 3 #[.string s, .int .i64 n, .int .i64 p] w fun e w' => e = .returned (.bool true) ∧ Below w.heap.size w w' :=
  Go.Proofs.YtkpndnjnckaanaaDoor.decimalDoes_walk s hs n (fits_of hn) p w ht
end decimalDoes
end Go.Proofs.YtkpndnjnckaanaaDoor
