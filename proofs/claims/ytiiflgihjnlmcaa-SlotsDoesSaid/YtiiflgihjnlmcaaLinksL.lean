/- SlotsLinks: what a round of its range keeps. No condition. -/
import Derived.Test.YtiiflgihjnlmcaaLinks1
import Derived.Test.YtiiflgihjnlmcaaMarks
namespace Go.Proofs.Ytiiflgihjnlmcaa
set_option linter.unusedVariables false
set_option linter.unusedSimpArgs false
open Go.RowKit Go.Shelf

theorem Only.grown {S : Nat → Prop} {a w w' : World} {row : Option Nat} (h : Only S a w) (hg : w.grownBy w' row) (hr : ∀ r, row = some r → a.heap.size ≤ r) : Only S a w' :=
  ⟨hg.os.trans h.os, hg.tape.trans h.tape, hg.output.trans h.output, Nat.le_trans h.size hg.size, fun i hi hs => (hg.block i (Nat.lt_of_lt_of_le hi h.size) (fun e => by have := hr i e.symm; omega)).trans (h.block i hi hs)⟩
theorem Cell.grown {w w' : World} {row : Option Nat} {b o : Nat} {v : Value} (h : Cell w b o v) (hg : w.grownBy w' row) (hr : ∀ r, row = some r → b < r) : Cell w' b o v :=
  h.blk (hg.block b h.lt (fun e => by have := hr b e.symm; omega))
theorem keepsFrom_of_only {T : Nat → Prop} {B : Nat} {W W' : World} (h : Only T W W') (hT : ∀ i, T i → i < B) : KeepsFrom B W W' :=
  ⟨h.size, fun k o hB hk _ => (h.block k (Array.getElem?_eq_some_iff.1 hk).1 (fun ht => by have := hT k ht; omega)).trans hk⟩

theorem item_next {L : List Nat} {V : Nat → Int} {pre : List Item} (h : pre <+: L.map fun n => (n, V n)) (hl : pre.length < L.length) :
    ∃ l1 n l2, L = l1 ++ n :: l2 ∧ l1.length = pre.length ∧ pre ++ [(n, V n)] <+: (L.map fun n => (n, V n)) ∧ ∀ x, x ≠ (n, V n) → ¬ pre ++ [x] <+: L.map fun n => (n, V n) := by
  obtain ⟨t, ht⟩ := h
  have e1 : L = L.take pre.length ++ L.drop pre.length := (List.take_append_drop _ _).symm
  have e2 : L.drop pre.length = L[pre.length] :: L.drop (pre.length + 1) := List.drop_eq_getElem_cons hl
  have e3 : pre = (L.map fun n => (n, V n)).take pre.length := by rw [← ht]; simp
  have e4 : t = (L.map fun n => (n, V n)).drop pre.length := by rw [← ht]; simp
  rw [← List.map_drop, e2, List.map_cons] at e4
  refine ⟨L.take pre.length, L[pre.length], L.drop (pre.length + 1), by rw [← e2]; exact e1, by simp; omega, ⟨_, by rw [← ht, e4, List.append_assoc]; rfl⟩, fun x hx => ?_⟩
  rintro ⟨s, hs⟩
  rw [← ht, e4, List.append_assoc, List.append_cancel_left_eq] at hs
  injection hs with h1 h2
  exact hx h1

/-- What holds ahead of each round of the range over a row. -/
structure RowI (Wc : World) (At Lg Sm G Rs : Nat) (L S0 : List Nat) (V : Nat → Int) (room : Nat) (pre : List Item) (W : World) : Prop where
  pf : pre <+: L.map fun n => (n, V n)
  only : Only (fun i => i = At ∨ i = Lg ∨ i = Sm ∨ i = G ∨ i = Rs) Wc W
  cat : Cell W At 0 (.int .i64 (hdI (L.drop pre.length)))
  clg : Cell W Lg 0 (.int .i64 ((L.length : Int) - pre.length))
  csm : Cell W Sm 0 (.int .i64 ((S0.length : Int) + pre.length))
  csn : ∀ k, k < room → Cell W G k (.bool (decide (k ∈ S0 ++ L.take pre.length)))
  crs : Cell W Rs 0 (.bool false)

theorem ownFrom_rowI {Wc : World} {At Lg Sm G Rs : Nat} {L S0 : List Nat} {V : Nat → Int} {room : Nat} (h1 : At < Wc.heap.size) (h2 : Lg < Wc.heap.size) (h3 : Sm < Wc.heap.size) (h4 : G < Wc.heap.size) (h5 : Rs < Wc.heap.size) :
    OwnFrom Wc.heap.size (RowI Wc At Lg Sm G Rs L S0 V room) := fun pre A B row h hg hr => by
  have hb : ∀ r, row = some r → Wc.heap.size ≤ r := fun r e => (hr r e).1
  have hx : ∀ (b : Nat), b < Wc.heap.size → ∀ r, row = some r → b < r := fun b h r e => Nat.lt_of_lt_of_le h (hb r e)
  exact ⟨h.pf, h.only.grown hg hb, h.cat.grown hg (hx _ h1), h.clg.grown hg (hx _ h2), h.csm.grown hg (hx _ h3), fun k hk => (h.csn k hk).grown hg (hx _ h4), h.crs.grown hg (hx _ h5)⟩

/-- A round that goes on. -/
theorem RowI.next {Wc W : World} {At Lg Sm G Rs : Nat} {L S0 : List Nat} {V : Nat → Int} {room : Nat} {pre : List Item} (h : RowI Wc At Lg Sm G Rs L S0 V room pre W) {l1 l2 : List Nat} {n : Nat} (hs : L = l1 ++ n :: l2) (hl : l1.length = pre.length)
    (hp : pre ++ [(n, V n)] <+: (L.map fun n => (n, V n))) {W' : World} (ho : Only (fun i => i = At ∨ i = Lg ∨ i = Sm ∨ i = G) W W')
    (c1 : Cell W' At 0 (.int .i64 (hdI l2))) (c2 : Cell W' Lg 0 (.int .i64 ((L.length : Int) - pre.length - 1))) (c3 : Cell W' Sm 0 (.int .i64 ((S0.length : Int) + pre.length + 1)))
    (c4 : Cell W' G n (.bool true)) (c5 : ∀ k, k < room → k ≠ n → Cell W' G k (.bool (decide (k ∈ S0 ++ L.take pre.length)))) (hRs : Rs ≠ At ∧ Rs ≠ Lg ∧ Rs ≠ Sm ∧ Rs ≠ G) :
    RowI Wc At Lg Sm G Rs L S0 V room (pre ++ [(n, V n)]) W' := by
  have e1 : (pre ++ [(n, V n)]).length = l1.length + 1 := by simp [hl]
  have e2 : L.drop (l1.length + 1) = l2 := by rw [hs]; simp
  have e3 : L.take (l1.length + 1) = L.take l1.length ++ [n] := by rw [List.take_add_one, hs]; simp
  refine ⟨hp, h.only.trans (ho.mono fun i _ hi => by omega), by rw [e1, e2]; exact c1, ?_, ?_, ?_, h.crs.only ho (by omega)⟩
  · rw [e1, hl]; have : (L.length : Int) - ((pre.length + 1 : Nat) : Int) = (L.length : Int) - pre.length - 1 := by omega
    rw [this]; exact c2
  · rw [e1, hl]; have : (S0.length : Int) + ((pre.length + 1 : Nat) : Int) = (S0.length : Int) + pre.length + 1 := by omega
    rw [this]; exact c3
  · intro k hk
    rw [e1, e3, hl, ← List.append_assoc]
    by_cases e : k = n
    · subst e
      rw [decide_eq_true (by simp)]; exact c4
    · have : decide (k ∈ S0 ++ L.take pre.length ++ [n]) = decide (k ∈ S0 ++ L.take pre.length) := by simp [e]
      rw [this]; exact c5 k hk e
end Go.Proofs.Ytiiflgihjnlmcaa
