/- The walk of RulesLess: the printed contract at the pure answer. No condition but the integers' own kinds. -/
import Derived.Test.YtiiflgihjnlmcaaPureRulesLess
import Derived.Test.YtiiflgihjnlmcaaFlat
namespace Go.Proofs.Ytiiflgihjnlmcaa
open Go.RowKit
theorem rulesLess_walk (w : World) (c0 : List Value) (f0 : Fits [.i .i64, .i .i64, .i .i64, .i .i64, .i .i64, .i .i64] c0) (c1 : List Value) (f1 : Fits [.i .i64, .i .u8, .i .u8, .i .i64, .i .i64] c1) (a2 : Int) (_ : (Lit.int .i64 a2).wf = true) (a3 : Int) (_ : (Lit.int .i64 a3).wf = true) (a4 : Int) (_ : (Lit.int .u8 a4).wf = true) :
    Calls Try.prog 5 #[.agg c0.toArray, .agg c1.toArray, .int .i64 a2, .int .i64 a3, .int .u8 a4] w fun e w' => e = .returned (.bool true) ∧ Below w.heap.size w w' := by
  obtain ⟨x0, _, rfl, xw0, f0⟩ := fits_i f0
  obtain ⟨x1, _, rfl, xw1, f0⟩ := fits_i f0
  obtain ⟨x2, _, rfl, xw2, f0⟩ := fits_i f0
  obtain ⟨x3, _, rfl, xw3, f0⟩ := fits_i f0
  obtain ⟨x4, _, rfl, xw4, f0⟩ := fits_i f0
  obtain ⟨x5, _, rfl, xw5, f0⟩ := fits_i f0
  obtain rfl := fits_nil f0
  obtain ⟨y0, _, rfl, yw0, f1⟩ := fits_i f1
  obtain ⟨y1, _, rfl, yw1, f1⟩ := fits_i f1
  obtain ⟨y2, _, rfl, yw2, f1⟩ := fits_i f1
  obtain ⟨y3, _, rfl, yw3, f1⟩ := fits_i f1
  obtain ⟨y4, _, rfl, yw4, f1⟩ := fits_i f1
  obtain rfl := fits_nil f1
  exact PRulesLess.tripwirelaw07_RulesLess.calls 30 x0 x1 x2 x3 x4 x5 y0 y1 y2 y3 y4 a2 a3 a4 true w (PRulesLess.does _ _ _ _ _ _ _ _ _ _ _ _ _ _ (bounds_u8 yw2))
end Go.Proofs.Ytiiflgihjnlmcaa
