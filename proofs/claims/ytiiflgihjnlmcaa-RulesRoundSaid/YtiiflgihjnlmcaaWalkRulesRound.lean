/- The walk of RulesRound: the printed contract at the pure answer. No condition but the integers' own kinds. -/
import Derived.Test.YtiiflgihjnlmcaaPureRulesRound
import Derived.Test.YtiiflgihjnlmcaaFlat
namespace Go.Proofs.Ytiiflgihjnlmcaa
open Go.RowKit
theorem rulesRound_walk (w : World) (c0 : List Value) (f0 : Fits [.i .i64, .i .i64, .i .i64, .i .i64, .i .i64, .i .i64] c0) (a1 : Bool) (a2 : Int) (_ : (Lit.int .i64 a2).wf = true) (a3 : Int) (_ : (Lit.int .i64 a3).wf = true) :
    Calls Try.prog 4 #[.agg c0.toArray, .bool a1, .int .i64 a2, .int .i64 a3] w fun e w' => e = .returned (.bool true) ∧ Below w.heap.size w w' := by
  obtain ⟨x0, _, rfl, xw0, f0⟩ := fits_i f0
  obtain ⟨x1, _, rfl, xw1, f0⟩ := fits_i f0
  obtain ⟨x2, _, rfl, xw2, f0⟩ := fits_i f0
  obtain ⟨x3, _, rfl, xw3, f0⟩ := fits_i f0
  obtain ⟨x4, _, rfl, xw4, f0⟩ := fits_i f0
  obtain ⟨x5, _, rfl, xw5, f0⟩ := fits_i f0
  obtain rfl := fits_nil f0
  exact PRulesRound.tripwirelaw07_RulesRound.calls 30 x0 x1 x2 x3 x4 x5 a1 a2 a3 true w (PRulesRound.does ..)
end Go.Proofs.Ytiiflgihjnlmcaa
