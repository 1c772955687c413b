/- QuotaNever: the walk at every config and every list of calls. No condition. -/
import Derived.Test.YtiiflgihjnlmcaaQuota6
namespace Go.Proofs.Ytiiflgihjnlmcaa
set_option linter.unusedVariables false
set_option linter.unusedSimpArgs false
open Go.RowKit

set_option maxHeartbeats 1000000 in
set_option maxRecDepth 100000 in
theorem quotaNever_no (w : World) (x0 x1 x2 x3 x4 x5 x6 x7 x8 x9 x10 x11 x12 x13 x14 : Int) (hcfg : CfgOk x0 x11 x13 x14 = false) (a : Option Addr) (len cap : Nat) :
    Calls Try.prog 7 #[.agg #[.int .i64 x0, .int .i64 x1, .int .i64 x2, .int .i64 x3, .int .i64 x4, .int .i64 x5, .int .i64 x6, .int .i64 x7, .int .i64 x8, .int .i64 x9, .int .i64 x10, .int .i64 x11, .int .i64 x12, .int .i64 x13, .int .i64 x14], .slice a len cap] w fun e w' => e = .returned (.bool true) ∧ Only (fun _ => False) w w' := by
  have s0 := fun w => Lib.hid (q_new_no x0 x1 x2 x3 x4 x5 x6 x7 x8 x9 x10 x11 x12 x13 x14 w hcfg)
  clear hcfg
  go_enter Try.func7, Try.ntmps7
  go_wp2_with fail
  refine (q_works _).mono ?_
  rintro e w1 ⟨rfl, o1⟩
  have hc0 : w1.cell? ⟨w.heap.size, 0, none⟩ = some (.int .i64 x0) := o1.cell (by simp [go_sem]) id
  have hc1 : w1.cell? ⟨w.heap.size, 1, none⟩ = some (.int .i64 x1) := o1.cell (by simp [go_sem]) id
  have hc2 : w1.cell? ⟨w.heap.size, 2, none⟩ = some (.int .i64 x2) := o1.cell (by simp [go_sem]) id
  have hc3 : w1.cell? ⟨w.heap.size, 3, none⟩ = some (.int .i64 x3) := o1.cell (by simp [go_sem]) id
  have hc4 : w1.cell? ⟨w.heap.size, 4, none⟩ = some (.int .i64 x4) := o1.cell (by simp [go_sem]) id
  have hc5 : w1.cell? ⟨w.heap.size, 5, none⟩ = some (.int .i64 x5) := o1.cell (by simp [go_sem]) id
  have hc6 : w1.cell? ⟨w.heap.size, 6, none⟩ = some (.int .i64 x6) := o1.cell (by simp [go_sem]) id
  have hc7 : w1.cell? ⟨w.heap.size, 7, none⟩ = some (.int .i64 x7) := o1.cell (by simp [go_sem]) id
  have hc8 : w1.cell? ⟨w.heap.size, 8, none⟩ = some (.int .i64 x8) := o1.cell (by simp [go_sem]) id
  have hc9 : w1.cell? ⟨w.heap.size, 9, none⟩ = some (.int .i64 x9) := o1.cell (by simp [go_sem]) id
  have hc10 : w1.cell? ⟨w.heap.size, 10, none⟩ = some (.int .i64 x10) := o1.cell (by simp [go_sem]) id
  have hc11 : w1.cell? ⟨w.heap.size, 11, none⟩ = some (.int .i64 x11) := o1.cell (by simp [go_sem]) id
  have hc12 : w1.cell? ⟨w.heap.size, 12, none⟩ = some (.int .i64 x12) := o1.cell (by simp [go_sem]) id
  have hc13 : w1.cell? ⟨w.heap.size, 13, none⟩ = some (.int .i64 x13) := o1.cell (by simp [go_sem]) id
  have hc14 : w1.cell? ⟨w.heap.size, 14, none⟩ = some (.int .i64 x14) := o1.cell (by simp [go_sem]) id
  go_wp2_with fail
  refine (s0 _).out.mono ?_
  rintro e w2 ⟨rfl, o2⟩
  go_wp2
  go_returns
  exact ⟨rfl, by repeat' (first | (with_reducible exact Only.refl _ _) | (with_reducible assumption) | (refine Only.of_none ?_; with_reducible assumption) | (with_reducible refine Only.drewN ?_ _) | (with_reducible refine Only.drew ?_) | (with_reducible refine Only.alloc ?_ _) | (with_reducible refine Only.setCell ?_ ?_ _) | (with_reducible refine Only.then0 ?_ (by with_reducible assumption)) | (with_reducible refine Only.thenN ?_ (by with_reducible assumption) ?_) | (refine .inl ?_; first | rfl | (simp; done)) | (refine .inr ?_; first | omega | (simp; done) | (simp; omega) | exact Only.size (by with_reducible assumption) | (refine Nat.le_trans (Only.size (by with_reducible assumption)) ?_; simp; done)))⟩

theorem quotaNever_walk (w : World) (c0 : List Value) (f0 : Fits [.i .i64, .i .i64, .i .i64, .i .i64, .i .i64, .i .i64, .i .i64, .i .i64, .i .i64, .i .i64, .i .i64, .i .i64, .i .i64, .i .i64, .i .i64] c0)
    (a : Option Addr) (len cap : Nat) (rows : List (List Value)) (hs : SliceIn w a len cap [.i .i64, .i .i64, .i .i64, .i .i64] rows) (hlen : len * 32 ≤ 140737488351232) :
    Calls Try.prog 7 #[.agg c0.toArray, .slice a len cap] w fun e w' => e = .returned (.bool true) ∧ Below w.heap.size w w' := by
  obtain ⟨x0, _, rfl, _, f0⟩ := fits_i f0
  obtain ⟨x1, _, rfl, _, f0⟩ := fits_i f0
  obtain ⟨x2, _, rfl, _, f0⟩ := fits_i f0
  obtain ⟨x3, _, rfl, _, f0⟩ := fits_i f0
  obtain ⟨x4, _, rfl, _, f0⟩ := fits_i f0
  obtain ⟨x5, _, rfl, _, f0⟩ := fits_i f0
  obtain ⟨x6, _, rfl, _, f0⟩ := fits_i f0
  obtain ⟨x7, _, rfl, _, f0⟩ := fits_i f0
  obtain ⟨x8, _, rfl, _, f0⟩ := fits_i f0
  obtain ⟨x9, _, rfl, _, f0⟩ := fits_i f0
  obtain ⟨x10, _, rfl, _, f0⟩ := fits_i f0
  obtain ⟨x11, _, rfl, _, f0⟩ := fits_i f0
  obtain ⟨x12, _, rfl, _, f0⟩ := fits_i f0
  obtain ⟨x13, _, rfl, _, f0⟩ := fits_i f0
  obtain ⟨x14, _, rfl, _, f0⟩ := fits_i f0
  obtain rfl := fits_nil f0
  cases h : CfgOk x0 x11 x13 x14
  · exact (quotaNever_no w x0 x1 x2 x3 x4 x5 x6 x7 x8 x9 x10 x11 x12 x13 x14 h a len cap).mono fun _ _ ⟨he, ho⟩ => ⟨he, ho.below⟩
  · exact (quotaNever_yes w x0 x1 x2 x3 x4 x5 x6 x7 x8 x9 x10 x11 x12 x13 x14 h a len cap rows hs hlen).mono fun _ _ ⟨he, ho⟩ => ⟨he, ho.below⟩
end Go.Proofs.Ytiiflgihjnlmcaa
