/- Flat data, more: where the cells of a slice that came in lie. No condition. -/
import Derived.Test.YtkpndnjnckaanaaDoorFlat
namespace Go.Proofs.YtkpndnjnckaanaaDoor
set_option linter.unusedVariables false
set_option linter.unusedSimpArgs false
open Go.ChangeShapes Go.WideShapes Go.ChangeAt Go.RowKit Go.Deep
theorem spot_of_cell {w : World} {x : Addr} {v : Value} (h : w.cell? x = some v) : x.spot = none := by
  unfold World.cell? at h
  split at h
  · split at h
    · cases h
    · rename_i hs; simpa using hs
  · cases h
theorem add_of_none {x : Addr} (h : x.spot = none) (n : Nat) : x.add n = ⟨x.block, x.off + n, none⟩ := by
  unfold Addr.add
  by_cases h0 : n = 0
  · subst h0; cases x; simp_all
  · rw [if_neg h0]

/-- A slice that came in and has an element: where its cells lie. -/
theorem SliceIn.at_ {w : World} {a : Option Addr} {len cap : Nat} {ks : List LK} {rows : List (List Value)} (h : SliceIn w a len cap ks rows) (hl : 0 < len) (hk : 0 < ks.length) :
    ∃ B off, a = some ⟨B, off, none⟩ ∧ B < w.heap.size ∧ ∀ i (r : List Value), rows[i]? = some r → ∀ j v, r[j]? = some v → w.cell? ⟨B, off + i * ks.length + j, none⟩ = some v := by
  obtain ⟨hlen, hf, h⟩ := h
  rcases h with ⟨_, h0, _⟩ | ⟨x, rfl, _, _, hc⟩
  · omega
  · have hr : rows[0]? = some (rows[0]'(by omega)) := List.getElem?_eq_getElem _
    have hrl := (hf _ (List.getElem_mem (show 0 < rows.length by omega))).length
    have hv : (rows[0]'(by omega))[0]? = some ((rows[0]'(by omega))[0]'(by omega)) := List.getElem?_eq_getElem _
    have h0 := hc 0 _ hr 0 _ hv
    have e00 : 0 * ks.length + 0 = 0 := by omega
    rw [e00] at h0
    have hs : x.spot = none := spot_of_cell (x := x) (by simpa [Addr.add] using h0)
    rw [add_of_none hs] at h0
    refine ⟨x.block, x.off, by cases x; simp_all, ?_, fun i r hi j v hj => ?_⟩
    · unfold World.cell? at h0
      rcases Nat.lt_or_ge x.block w.heap.size with hlt | hge
      · exact hlt
      · simp only [Array.getElem?_eq_none hge] at h0; cases h0
    · have h1 := hc i r hi j v hj
      rw [add_of_none hs, ← Nat.add_assoc] at h1
      exact h1

end Go.Proofs.YtkpndnjnckaanaaDoor
