/- Slots: the walks over the heap of free numbers. Conditions: an arena as New lays it. -/
import Derived.Test.YtkglplngnjgnhaaRows
import Derived.Test.YtkglplngnjgnhaaKit2
import Derived.Test.YtkglplngnjgnhaaOrdP
import Derived.BigRegion
namespace Go.Proofs.Ytkglplngnjgnhaa
set_option linter.unusedVariables false
set_option linter.unusedSimpArgs false
namespace Od
open Go.RowKit

def freeV (A : Ar) : List Value := (List.range A.room).map fun i => .int .i64 (A.fr i)

structure ArAt (w : World) (b : Nat) (A : Ar) : Prop where
  c0 : Cell w b 0 (.slice (some ⟨A.gl, 0, none⟩) A.room A.room)
  c1 : Cell w b 1 (.slice (some ⟨A.gr, 0, none⟩) A.nr A.nr)
  c2 : Cell w b 2 (.slice (some ⟨A.gf, 0, none⟩) A.nf A.room)
  l0 : ∀ i, i < A.room → ∀ c u, (A.th i).cells[c]? = some u → Cell w A.gl (i * 8 + c) u
  l1 : ∀ i, i < A.room → Cell w A.gl (i * 8 + 5) (.int .i64 (A.ro i))
  l2 : ∀ i, i < A.room → Cell w A.gl (i * 8 + 6) (.int .i64 (A.ah i))
  l3 : ∀ i, i < A.room → Cell w A.gl (i * 8 + 7) (.int .i64 (A.fa i))
  r0 : ∀ i, i < A.nr → Cell w A.gr (i * 3) (.int .i64 (A.rf i))
  r1 : ∀ i, i < A.nr → Cell w A.gr (i * 3 + 1) (.int .i64 (A.rl i))
  r2 : ∀ i, i < A.nr → Cell w A.gr (i * 3 + 2) (.int .i64 (A.rn i))
  f : w.heap[A.gf]? = some (.cells (freeV A).toArray 3 (0, 0))
  lr : A.gl < w.heap.size ∧ A.gr < w.heap.size
  n1 : b ≠ A.gl
  n2 : b ≠ A.gr
  n3 : b ≠ A.gf
  n4 : A.gl ≠ A.gr
  n5 : A.gl ≠ A.gf
  n6 : A.gr ≠ A.gf
  small : A.room ≤ 65536 ∧ A.nr ≤ 65536 ∧ A.nf ≤ A.room
  tc : ∀ i, i < A.room → (A.th i).cells.size = 5

theorem cell_of_blk {w : World} {g : Nat} {cs : List Value} {t : TypeId} (h : w.heap[g]? = some (.cells cs.toArray t (0, 0))) {i : Nat} {v : Value} (hi : cs[i]? = some v) : Cell w g i v :=
  ⟨by unfold World.cell?; simp only [h]; simpa using hi, by unfold World.frozen?; simp only [h]; simp⟩

theorem freeV_at {A : Ar} {i : Nat} (h : i < A.room) : (freeV A)[i]? = some (.int .i64 (A.fr i)) := by simp [freeV, h]
theorem ArAt.fc {w : World} {b : Nat} {A : Ar} (h : ArAt w b A) {i : Nat} (hi : i < A.room) : Cell w A.gf i (.int .i64 (A.fr i)) := cell_of_blk h.f (freeV_at hi)
theorem ArAt.gf_lt {w : World} {b : Nat} {A : Ar} (h : ArAt w b A) : A.gf < w.heap.size := by
  rcases Nat.lt_or_ge A.gf w.heap.size with hlt | hge
  · exact hlt
  · have := h.f; rw [Array.getElem?_eq_none hge] at this; cases this

/-- The blocks of an arena. -/
def Ar.blk (A : Ar) (b : Nat) (i : Nat) : Prop := i = b ∨ i = A.gl ∨ i = A.gr ∨ i = A.gf

theorem ArAt.only {w w' : World} {b : Nat} {A : Ar} {S : Nat → Prop} (h : ArAt w b A) (k : Only S w w') (hb : ¬ S b) (hl : ¬ S A.gl) (hr : ¬ S A.gr) (hf : ¬ S A.gf) : ArAt w' b A :=
  ⟨h.c0.only k hb, h.c1.only k hb, h.c2.only k hb, fun i hi c u hu => (h.l0 i hi c u hu).only k hl, fun i hi => (h.l1 i hi).only k hl, fun i hi => (h.l2 i hi).only k hl, fun i hi => (h.l3 i hi).only k hl,
    fun i hi => (h.r0 i hi).only k hr, fun i hi => (h.r1 i hi).only k hr, fun i hi => (h.r2 i hi).only k hr, (k.block _ h.gf_lt hf).trans h.f, ⟨Nat.lt_of_lt_of_le h.lr.1 k.size, Nat.lt_of_lt_of_le h.lr.2 k.size⟩,
    h.n1, h.n2, h.n3, h.n4, h.n5, h.n6, h.small, h.tc⟩

theorem ArAt.drew {w : World} {b : Nat} {A : Ar} (h : ArAt w b A) : ArAt w.drew b A := h.only ((Only.refl (fun _ => False) w).drew) id id id id
theorem ArAt.drewN {w : World} {b : Nat} {A : Ar} (h : ArAt w b A) (n : Nat) : ArAt (w.drewN n) b A := h.only ((Only.refl (fun _ => False) w).drewN n) id id id id
theorem ArAt.alloc {w : World} {b : Nat} {A : Ar} (h : ArAt w b A) (o : Obj) : ArAt (w.alloc o) b A := h.only ((Only.refl (fun _ => False) w).alloc o) id id id id

/-- A free number's place is written. -/
theorem ArAt.setf {w : World} {b : Nat} {A : Ar} (h : ArAt w b A) {i : Nat} (hi : i < A.room) (x : Int) : ArAt (w.setCell ⟨A.gf, i, none⟩ (.int .i64 x)) b { A with fr := upd A.fr i x } := by
  have far : ∀ {g o : Nat} {v : Value}, Cell w g o v → g ≠ A.gf → Cell (w.setCell ⟨A.gf, i, none⟩ (.int .i64 x)) g o v := fun hc hg => hc.far (blk_ne (Ne.symm hg)) _
  refine ⟨far h.c0 h.n3, far h.c1 h.n3, far h.c2 h.n3, fun k hk c u hu => far (h.l0 k hk c u hu) h.n5, fun k hk => far (h.l1 k hk) h.n5, fun k hk => far (h.l2 k hk) h.n5, fun k hk => far (h.l3 k hk) h.n5, fun k hk => far (h.r0 k hk) h.n6, fun k hk => far (h.r1 k hk) h.n6, fun k hk => far (h.r2 k hk) h.n6,
    ?_, by simpa [World.setCell] using h.lr, h.n1, h.n2, h.n3, h.n4, h.n5, h.n6, h.small, h.tc⟩
  have := h.f
  simp only [World.setCell, Array.getElem?_modify, if_pos, this, Option.map_some, Option.isSome_none, Bool.false_eq_true, if_false]
  congr 2
  simp only [List.setIfInBounds_toArray, freeV, Array.mk.injEq]
  apply List.ext_getElem?
  intro k
  rw [List.getElem?_set]
  by_cases hk : i = k
  · subst hk
    simp [hi, upd]
  · rw [if_neg hk]
    by_cases hkr : k < A.room
    · simp [hkr, upd, Ne.symm hk]
    · simp [hkr]

/-- How many are free is written. -/
theorem ArAt.setn {w : World} {b : Nat} {A : Ar} (h : ArAt w b A) {n : Nat} (hn : n ≤ A.room) : ArAt (w.setCell ⟨b, 2, none⟩ (.slice (some ⟨A.gf, 0, none⟩) n A.room)) b { A with nf := n } := by
  have far : ∀ {g o : Nat} {v : Value}, Cell w g o v → b ≠ g → Cell (w.setCell ⟨b, 2, none⟩ (.slice (some ⟨A.gf, 0, none⟩) n A.room)) g o v := fun hc hg => hc.far (blk_ne hg) _
  refine ⟨h.c0.far (off_ne (by omega)) _, h.c1.far (off_ne (by omega)) _, h.c2.set _, fun k hk c u hu => far (h.l0 k hk c u hu) h.n1, fun k hk => far (h.l1 k hk) h.n1, fun k hk => far (h.l2 k hk) h.n1, fun k hk => far (h.l3 k hk) h.n1, fun k hk => far (h.r0 k hk) h.n2, fun k hk => far (h.r1 k hk) h.n2, fun k hk => far (h.r2 k hk) h.n2,
    ?_, by simpa [World.setCell] using h.lr, h.n1, h.n2, h.n3, h.n4, h.n5, h.n6, ⟨h.small.1, h.small.2.1, hn⟩, h.tc⟩
  exact (Below.heap_setCell w _ _ A.gf (Ne.symm h.n3)).trans h.f
end Od
end Go.Proofs.Ytkglplngnjgnhaa
