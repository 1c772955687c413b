/- BookOrder: plain laws: numbers that rise, levels that are used up, a first part up to a limit, clients. Conditions: a book's orders. -/
import Derived.Test.YtilngakgofjmpaaR6g
namespace Go.Proofs.Ytilngakgofjmpaa
set_option linter.unusedVariables false
set_option linter.unusedSimpArgs false
open Go.RowKit Go.Shelf
open Od (OrdR)

/-! ### Numbers rise -/
theorem nodup_inj : ∀ {L : List OrdR}, (L.map OrdR.i).Nodup → ∀ {a b : OrdR}, a ∈ L → b ∈ L → a.i = b.i → a = b
  | [], _, _, _, h, _, _ => by cases h
  | x :: t, hn, a, b, ha, hb, e => by
    have h2 := List.nodup_cons.1 (show (x.i :: t.map OrdR.i).Nodup from hn)
    rcases List.mem_cons.1 ha with ha' | ha'
    · rcases List.mem_cons.1 hb with hb' | hb'
      · rw [ha', hb']
      · subst ha'; exact (h2.1 (List.mem_map.2 ⟨b, hb', e.symm⟩)).elim
    · rcases List.mem_cons.1 hb with hb' | hb'
      · subst hb'; exact (h2.1 (List.mem_map.2 ⟨a, ha', e⟩)).elim
      · exact nodup_inj h2.2 ha' hb' e
structure Rise (l : Bool → List OrdR) (k : Int) : Prop where
  asc : ∀ q, (l q).Pairwise fun x y => x.p = y.p → x.i < y.i
  le : ∀ q, ∀ o ∈ l q, o.i ≤ k
theorem Rise.start (k : Int) : Rise (fun _ => []) k := ⟨fun _ => List.Pairwise.nil, fun _ o h => by cases h⟩
theorem Rise.more {l : Bool → List OrdR} {k k' : Int} (h : Rise l k) (hk : k ≤ k') : Rise l k' := ⟨h.asc, fun q o ho => by have := h.le q o ho; omega⟩

theorem getL_mem {l : Bool → List OrdR} (hn : ((l false ++ l true).map OrdR.i).Nodup) {q : Bool} {o : OrdR} (ho : o ∈ l q) : getL l o.i = some o := by
  have hall : ∀ y : OrdR, (∃ q, y ∈ l q) → y ∈ l false ++ l true := fun y ⟨q, hy⟩ => by cases q <;> simp [hy]
  cases e : getL l o.i with
  | none =>
    unfold getL at e
    rw [List.find?_eq_none] at e
    have := e o (hall o ⟨q, ho⟩)
    simp at this
  | some p =>
    unfold getL at e
    have h1 : p.i = o.i := by
      have := List.find?_some e
      simpa using this
    rw [nodup_inj hn (List.mem_of_find?_eq_some e) (hall o ⟨q, ho⟩) h1]

/-! ### Levels are used up -/
def subD : List LvR → List LvR → List LvR
  | D, [] => D
  | [], _ => []
  | d :: D, e :: E => ⟨d.p, d.q - e.q, d.n - e.n⟩ :: subD D E

/-! ### A first part up to a limit -/
theorem fac_parts {sg lim : Int} : ∀ {L : List OrdR}, L.Pairwise (fun x y => sg * x.p ≤ sg * y.p) → ∃ D, L = facL sg lim L ++ D ∧ (lim ≠ 0 → ∀ x ∈ facL sg lim L, sg * x.p ≤ sg * lim) ∧ (∀ x ∈ D, lim ≠ 0 ∧ sg * lim < sg * x.p) := by
  intro L hs
  by_cases h0 : lim = 0
  · refine ⟨[], ?_, fun h => absurd h0 h, fun x hx => (by cases hx)⟩
    unfold facL; rw [if_pos h0, List.append_nil]
  · unfold facL
    simp only [if_neg h0]
    induction L with
    | nil => exact ⟨[], rfl, fun _ x hx => (by cases hx), fun x hx => (by cases hx)⟩
    | cons y t ih =>
      have hs2 := List.pairwise_cons.1 hs
      by_cases hy : sg * y.p ≤ sg * lim
      · obtain ⟨D, h1, h2, h3⟩ := ih hs2.2
        refine ⟨D, ?_, fun hne x hx => ?_, h3⟩
        · rw [List.filter_cons, if_pos (by simpa using hy), List.cons_append, ← h1]
        · rw [List.filter_cons, if_pos (by simpa using hy)] at hx
          rcases List.mem_cons.1 hx with rfl | hx
          · exact hy
          · exact h2 hne x hx
      · have hall : ∀ x ∈ y :: t, sg * lim < sg * x.p := fun x hx => by
          rcases List.mem_cons.1 hx with rfl | hx
          · omega
          · have := hs2.1 x hx; omega
        have he : (y :: t).filter (fun o => decide (sg * o.p ≤ sg * lim)) = [] := List.filter_eq_nil_iff.2 fun x hx => by have := hall x hx; simp; omega
        rw [he]
        exact ⟨y :: t, rfl, fun _ x hx => (by cases hx), fun x hx => ⟨h0, hall x hx⟩⟩

/-! ### Clients -/
def below (c : Int) (L : List OrdR) : Int := ((L.filter fun o => decide (o.c < c)).length : Nat)
end Go.Proofs.Ytilngakgofjmpaa
