/- Decimal: the walks as the rows want them. Condition: FormatInt's table is laid. -/
import Derived.Test.YtkpndnjnckaanaaDoorDm9
namespace Go.Proofs.YtkpndnjnckaanaaDoor
set_option linter.unusedVariables false
set_option linter.unusedSimpArgs false
open Go.RowKit Go.Shelf

theorem fits_of {n : Int} (h : (Lit.int .i64 n).wf = true) : fits64 n = true := by
  have h1 : (decide (IntKind.i64.min ≤ n) && decide (n ≤ IntKind.i64.max)) = true := h
  have e1 : IntKind.i64.min = -9223372036854775808 := rfl
  have e2 : IntKind.i64.max = 9223372036854775807 := rfl
  rw [e1, e2, Bool.and_eq_true, decide_eq_true_iff, decide_eq_true_iff] at h1
  exact decide_eq_true h1
namespace decimalBack
theorem decimalBack_walk (w : World) (s : ByteArray) (hs : s.size ≤ 140737488351232) (n : Int) (hn : (Lit.int .i64 n).wf = true) (p : Int) (_ : (Lit.int .i64 p).wf = true) (ht : Tb w) : Calls Tryd.prog 4 #[.string s, .int .i64 n, .int .i64 p] w fun e w' => e = .returned (.bool true) ∧ Below w.heap.size w w' :=
  Go.Proofs.YtkpndnjnckaanaaDoor.decimalBack_walk s hs n (fits_of hn) p w ht
end decimalBack
namespace decimalPlace
theorem decimalPlace_walk (w : World) (s : ByteArray) (hs : s.size ≤ 140737488351232) (p : Int) (_ : (Lit.int .i64 p).wf = true) (ht : Tb w) : Calls Tryd.prog 5 #[.string s, .int .i64 p] w fun e w' => e = .returned (.bool true) ∧ Below w.heap.size w w' :=
  Go.Proofs.YtkpndnjnckaanaaDoor.decimalPlace_walk s hs p w ht
end decimalPlace
namespace decimalPlaces
theorem decimalPlaces_walk (w : World) (n : Int) (hn : (Lit.int .i64 n).wf = true) (p : Int) (_ : (Lit.int .i64 p).wf = true) (ht : Tb w) : Calls Tryd.prog 6 #[.int .i64 n, .int .i64 p] w fun e w' => e = .returned (.bool true) ∧ Below w.heap.size w w' :=
  Go.Proofs.YtkpndnjnckaanaaDoor.decimalPlaces_walk n (fits_of hn) p w ht
end decimalPlaces
end Go.Proofs.YtkpndnjnckaanaaDoor
