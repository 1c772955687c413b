/- SameLevels at two lists that are alike. Conditions: both are read. -/
import Derived.Test.YtilngakgofjmpaaR6e
namespace Go.Proofs.Ytilngakgofjmpaa
set_option linter.unusedVariables false
set_option linter.unusedSimpArgs false
open Go.RowKit Go.Shelf
open Od (OrdR)

/-- A list of levels that is read: where it lies, and what. -/
def LvlAt (w : World) (va : Option Addr) (l : List LvR) : Prop := ∀ k d, l[k]? = some d → ∃ g, va = some ⟨g, 0, none⟩ ∧ g < w.heap.size ∧ w.cell? ⟨g, k * 3, none⟩ = some (.int .i64 d.p) ∧ w.cell? ⟨g, k * 3 + 1, none⟩ = some (.int .i64 d.q) ∧ w.cell? ⟨g, k * 3 + 2, none⟩ = some (.int .i64 d.n)
theorem LvlAt.of_own {w : World} {base : Nat} {e : TypeId} {v : Value} {l : List LvR} (h : w.ownsRow base e 3 v l.length (lvlC l)) : ∃ va cap, v = .slice va l.length cap ∧ l.length ≤ cap ∧ LvlAt w va l := by
  obtain ⟨va, cap, hv, hc⟩ := own_slice h
  refine ⟨va, cap, hv, hc, fun k o hk => ?_⟩
  have hpos : 0 < l.length := by have := (List.getElem?_eq_some_iff.1 hk).1; omega
  obtain ⟨g, cap', hv', _, _, hlt, hcell⟩ := own_cell h hpos
  rw [hv] at hv'
  injection hv' with e1 e2 e3
  obtain ⟨h0, h1, h2⟩ := lvlC_at hk
  exact ⟨g, e1, hlt, (hcell _ _ h0).cell, (hcell _ _ h1).cell, (hcell _ _ h2).cell⟩
theorem LvlAt.only {w w' : World} {va : Option Addr} {l : List LvR} (h : LvlAt w va l) {S : Nat → Prop} (o : Only S w w') (hS : ∀ i, i < w.heap.size → ¬ S i) : LvlAt w' va l := fun k x hk => by
  obtain ⟨g, h0, h1, c0, c1, c2⟩ := h k x hk
  have hs := hS g h1
  exact ⟨g, h0, Nat.lt_of_lt_of_le h1 o.size, o.cell c0 hs, o.cell c1 hs, o.cell c2 hs⟩

end Go.Proofs.Ytilngakgofjmpaa
