/- Decimal: the rows' condition on Go's tables gives FormatInt's table; a world that meets the condition. No condition. -/
import Derived.Test.YtkpndnjnckaanaaDoorRows
import Derived.Test.YtkpndnjnckaanaaDoorDm4
import Derived.LaidMore
import Derived.LaidHandle
import Derived.MakeChecks
import Derived.Lib.LaidU8
import Derived.Lib.LaidTab
import Derived.PinnedBridge
namespace Go.Proofs.YtkpndnjnckaanaaDoor
set_option linter.unusedVariables false
set_option linter.unusedSimpArgs false
open Go.RowKit

def dmLaid : List (String × DataW Unit) := Rows.decimalBackRow.laid
theorem tb_of_laid {W : World} (h : laidMetH Tryd.prog dmLaid W) : Tb W := by
  rw [MakeChecks.laidMetH_plain _ _ _ (by kernel_rfl)] at h
  have hm : ("internal/strconv.uint64pow10", (Lib.tabData .u64 Lib.pow10Tab : DataW Unit)) ∈ dmLaid := by
    have e : dmLaid[2]? = some ("internal/strconv.uint64pow10", (Lib.tabData .u64 Lib.pow10Tab : DataW Unit)) := by kernel_rfl
    exact List.mem_of_getElem? e
  obtain ⟨g', t', cs, fuel, p, hg', ht', hvar, hd⟩ := Lib.laidMet.reads h hm
  have hg : Tryd.prog.globalNamed "internal/strconv.uint64pow10" = some 0 := by kernel_rfl
  obtain rfl := Option.some.inj (hg.symm.trans hg')
  have hty : ((Tryd.prog.globals[0]?).map (·.type)).bind Tryd.prog.underlying = some (.array 20 44) := by kernel_rfl
  rw [ht'] at hty
  have hct : Tryd.prog.cellsOf t' = 20 := by
    have h2 : ((Tryd.prog.globals[0]?).map (·.type)).map Tryd.prog.cellsOf = some 20 := by kernel_rfl
    rw [ht'] at h2
    exact Option.some.inj h2
  unfold Tb Lib.TabIs
  rw [hvar, ← Lib.cells_of_tab (show Tryd.prog.underlying t' = some (.array 20 44) from hty) (by kernel_rfl) (by kernel_rfl) hct hd]
noncomputable def dmWorld (os : Os) : World :=
  let w0 := World.doorLaid Tryd.prog 34 os
  { w0 with heap := w0.heap.modify 2 fun
      | .cells _ t frozen => .cells (Lib.firstTab.map fun z => Value.int .u8 z).toArray t frozen
      | o => o }
set_option maxRecDepth 100000 in
theorem dm_met (os : Os) (args : Array Value) : laidMetH Tryd.prog dmLaid ((dmWorld os).forCall (fun _ _ => 0) ⟨#[], args, []⟩).memory :=
  laidMetH_of_parts3 (fuel := 8) (laidMet_of_run' 8 (by kernel_rfl) (by kernel_rfl)) (by kernel_rfl) (by kernel_rfl)
end Go.Proofs.YtkpndnjnckaanaaDoor
