/- Small words for memory: a cell that is known and may be written; a world in which only certain blocks have turned. No condition. -/
import Derived.Below
import Derived.Laws.OwnMore
import Derived.Deep.Draws
import Derived.WalkKit
import Derived.Handy
import Derived.WalkSpells
import Derived.WalkLawsBesides
import Derived.Deep.QuietTactic
import Derived.BigQuiet
import Derived.Deep.RegionHeld3
import Derived.Lib.Hide
import Derived.Deep.CutBlock
import Derived.Deep.CutRange
import Derived.Deep.DeepCutAuto
import Derived.Deep.LoopGhost
import Derived.Deep.RegionWith
namespace Go.Proofs.YtkpndnjnckaanaaDoor
set_option linter.unusedVariables false
set_option linter.unusedSimpArgs false
open Go.RowKit

theorem cell_lt {w : World} {b o : Nat} {v : Value} (h : w.cell? ⟨b, o, none⟩ = some v) : b < w.heap.size := by
  unfold World.cell? at h
  rcases Nat.lt_or_ge b w.heap.size with hlt | hge
  · exact hlt
  · simp only [Array.getElem?_eq_none hge] at h; cases h

theorem off_ne {b o o' : Nat} (h : o ≠ o') : (⟨b, o, none⟩ : Addr) ≠ ⟨b, o', none⟩ := fun e => h (by injection e)
theorem blk_ne {b b' o o' : Nat} (h : b ≠ b') : (⟨b, o, none⟩ : Addr) ≠ ⟨b', o', none⟩ := fun e => h (by injection e)

/-- A cell that is known, and may be written. -/
structure Cell (w : World) (b o : Nat) (v : Value) : Prop where
  cell : w.cell? ⟨b, o, none⟩ = some v
  free : w.frozen? ⟨b, o, none⟩ = false

theorem Cell.lt {w : World} {b o : Nat} {v : Value} (h : Cell w b o v) : b < w.heap.size := cell_lt h.cell

/-- Of what lay in w only the blocks of S may have turned. -/
structure Only (S : Nat → Prop) (w w' : World) : Prop where
  os : w'.os = w.os
  tape : w'.tape = w.tape
  output : w'.output = w.output
  size : w.heap.size ≤ w'.heap.size
  block : ∀ k, k < w.heap.size → ¬ S k → w'.heap[k]? = w.heap[k]?

theorem Only.refl (S : Nat → Prop) (w : World) : Only S w w := ⟨rfl, rfl, rfl, Nat.le_refl _, fun _ _ _ => rfl⟩
theorem Only.trans {S : Nat → Prop} {a b c : World} (h : Only S a b) (k : Only S b c) : Only S a c :=
  ⟨k.os.trans h.os, k.tape.trans h.tape, k.output.trans h.output, Nat.le_trans h.size k.size, fun i hi hs => (k.block i (Nat.lt_of_lt_of_le hi h.size) hs).trans (h.block i hi hs)⟩
/-- What came later may have turned new blocks besides. -/
theorem Only.trans' {S T : Nat → Prop} {a b c : World} (h : Only S a b) (k : Only T b c) (hT : ∀ i, i < a.heap.size → T i → S i) : Only S a c :=
  ⟨k.os.trans h.os, k.tape.trans h.tape, k.output.trans h.output, Nat.le_trans h.size k.size, fun i hi hs => (k.block i (Nat.lt_of_lt_of_le hi h.size) (fun ht => hs (hT i hi ht))).trans (h.block i hi hs)⟩
theorem Only.mono {S T : Nat → Prop} {a b : World} (h : Only S a b) (hT : ∀ i, i < a.heap.size → S i → T i) : Only T a b := ⟨h.os, h.tape, h.output, h.size, fun i hi hs => h.block i hi (fun hs' => hs (hT i hi hs'))⟩
theorem Only.drew {S : Nat → Prop} {a w : World} (h : Only S a w) : Only S a w.drew := ⟨h.os, h.tape, h.output, h.size, h.block⟩
theorem Only.drewN {S : Nat → Prop} {a w : World} (h : Only S a w) (n : Nat) : Only S a (w.drewN n) := ⟨h.os, h.tape, h.output, h.size, h.block⟩
theorem Only.alloc {S : Nat → Prop} {a w : World} (h : Only S a w) (o : Obj) : Only S a (w.alloc o) :=
  ⟨h.os, h.tape, h.output, Nat.le_trans h.size (by simp), fun i hi hs => (Below.heap_alloc w o i (Nat.lt_of_lt_of_le hi h.size)).trans (h.block i hi hs)⟩
theorem Only.setCell {S : Nat → Prop} {a w : World} (h : Only S a w) {p : Addr} (hp : S p.block ∨ a.heap.size ≤ p.block) (u : Value) : Only S a (w.setCell p u) :=
  ⟨h.os, h.tape, h.output, by simpa [World.setCell] using h.size, fun i hi hs => (Below.heap_setCell w p u i (by
    rintro rfl
    rcases hp with hp | hp
    · exact hs hp
    · omega)).trans (h.block i hi hs)⟩
theorem Only.of_below {S : Nat → Prop} {a w : World} (h : Below a.heap.size a w) : Only S a w := ⟨h.os, h.tape, h.output, h.size, fun i hi _ => h.block i hi⟩
theorem Only.below {a w : World} (h : Only (fun _ => False) a w) : Below a.heap.size a w := ⟨h.os, h.tape, h.output, h.size, fun i hi => h.block i hi id⟩
theorem Only.then0 {S : Nat → Prop} {a b c : World} (h : Only S a b) (k : Only (fun _ => False) b c) : Only S a c := h.trans' k fun _ _ h => h.elim
theorem Only.thenN {S : Nat → Prop} {a b c : World} {g : Nat} (h : Only S a b) (k : Only (· = g) b c) (hg : S g ∨ a.heap.size ≤ g) : Only S a c :=
  h.trans' k fun i hi e => by
    subst e
    rcases hg with hg | hg
    · exact hg
    · omega
theorem Only.of_none {S : Nat → Prop} {a b : World} (h : Only (fun _ => False) a b) : Only S a b := h.mono fun _ _ h => h.elim
/-- Blocks that are new since a may turn. -/
theorem Only.new {S : Nat → Prop} {a b c : World} (h : Only S a b) (k : Only (fun i => a.heap.size ≤ i) b c) : Only S a c := h.trans' k (fun i hi ht => by omega)
theorem Only.cell {S : Nat → Prop} {a w : World} (h : Only S a w) {b o : Nat} {v : Value} (hc : a.cell? ⟨b, o, none⟩ = some v) (hb : ¬ S b) : w.cell? ⟨b, o, none⟩ = some v :=
  (World.cell?_of_block (w := a) (h.block b (cell_lt hc) hb)).trans hc

section
variable {w w' : World} {b o : Nat} {v : Value}
theorem Cell.only {S : Nat → Prop} (h : Cell w b o v) (k : Only S w w') (hb : ¬ S b) : Cell w' b o v :=
  ⟨(World.cell?_of_block (w := w) (k.block b h.lt hb)).trans h.cell, (World.frozen?_of_block (w := w) (k.block b h.lt hb)).trans h.free⟩
theorem Cell.drew (h : Cell w b o v) : Cell w.drew b o v := ⟨h.cell, h.free⟩
theorem Cell.drewN (h : Cell w b o v) (n : Nat) : Cell (w.drewN n) b o v := ⟨h.cell, h.free⟩
theorem Cell.alloc (h : Cell w b o v) (x : Obj) : Cell (w.alloc x) b o v := h.only ((Only.refl (fun _ => False) w).alloc x) id
theorem Cell.far (h : Cell w b o v) {p : Addr} (hp : p ≠ ⟨b, o, none⟩) (u : Value) : Cell (w.setCell p u) b o v :=
  ⟨(World.cell?_setCell_other w p _ u (fun e => hp e)).trans h.cell, (World.frozen?_setCell ..).trans h.free⟩
theorem Cell.set (h : Cell w b o v) (u : Value) : Cell (w.setCell ⟨b, o, none⟩ u) b o u :=
  ⟨World.cell?_setCell_same' _ _ _ (by rw [h.cell]; rfl), (World.frozen?_setCell ..).trans h.free⟩
theorem Cell.new {cs : Array Value} {t : TypeId} (h : cs[o]? = some v) : Cell (w.alloc (.cells cs t)) w.heap.size o v :=
  ⟨by rw [World.cell?_alloc_new]; exact h, by show (match (w.heap.push (.cells cs t))[w.heap.size]? with | some (.cells _ _ (lo, hi)) => decide (lo ≤ o) && decide (o < hi) | _ => false) = false; rw [Array.getElem?_push_size]; simp⟩
end
end Go.Proofs.YtkpndnjnckaanaaDoor
