/- Small words for memory: a cell that is known and may be written; a world in which only certain blocks have turned. No condition. -/
import Derived.Below
import Derived.Laws.OwnMore
import Derived.Deep.Draws
import Derived.WalkKit
import Derived.Handy
import Derived.WalkSpells
import Derived.WalkLawsBesides
import Derived.Deep.QuietTactic
import Derived.BigQuiet
import Derived.Deep.RegionHeld3
import Derived.Lib.Hide
import Derived.Deep.CutBlock
import Derived.Deep.CutRange
import Derived.Deep.DeepCutAuto
import Derived.Deep.LoopGhost
import Derived.Deep.RegionWith
import Derived.Deep.Slices
import Derived.Deep.Fields
import Derived.ChangeSame
import Derived.ProofKit
import Derived.OpenShut
import Derived.SizedLaws
import Derived.Laws.MakeOwn
import Derived.Laws.AppendOwn
import Derived.Laws.Tables
import Derived.Maps.AppendAt
import Derived.Deep.AppendLies
import Derived.Deep.RegionLaw
import Derived.RangeFuncNested
import Derived.RangeFuncBound
import Derived.RangeFuncCalls
import Derived.RangeFuncLeaves
import Derived.Shelf.Abstract
import Derived.Shelf.RegionOpen
import Derived.OwnWalkIn
import Derived.TacticsInMore
import Derived.LoopNIn
import Derived.LoopIn
import Derived.BigRegion
import Derived.StillTailTactics
namespace Go.Proofs.Ytilngakgofjmpaa
set_option linter.unusedVariables false
set_option linter.unusedSimpArgs false
open Go.RowKit

theorem cell_lt {w : World} {b o : Nat} {v : Value} (h : w.cell? ⟨b, o, none⟩ = some v) : b < w.heap.size := by
  unfold World.cell? at h
  rcases Nat.lt_or_ge b w.heap.size with hlt | hge
  · exact hlt
  · simp only [Array.getElem?_eq_none hge] at h; cases h

theorem off_ne {b o o' : Nat} (h : o ≠ o') : (⟨b, o, none⟩ : Addr) ≠ ⟨b, o', none⟩ := fun e => h (by injection e)
theorem blk_ne {b b' o o' : Nat} (h : b ≠ b') : (⟨b, o, none⟩ : Addr) ≠ ⟨b', o', none⟩ := fun e => h (by injection e)

/-- A cell that is known, and may be written. -/
structure Cell (w : World) (b o : Nat) (v : Value) : Prop where
  cell : w.cell? ⟨b, o, none⟩ = some v
  free : w.frozen? ⟨b, o, none⟩ = false

theorem Cell.lt {w : World} {b o : Nat} {v : Value} (h : Cell w b o v) : b < w.heap.size := cell_lt h.cell

/-- Of what lay in w only the blocks of S may have turned. -/
structure Only (S : Nat → Prop) (w w' : World) : Prop where
  os : w'.os = w.os
  tape : w'.tape = w.tape
  output : w'.output = w.output
  size : w.heap.size ≤ w'.heap.size
  block : ∀ k, k < w.heap.size → ¬ S k → w'.heap[k]? = w.heap[k]?

theorem Only.refl (S : Nat → Prop) (w : World) : Only S w w := ⟨rfl, rfl, rfl, Nat.le_refl _, fun _ _ _ => rfl⟩
theorem Only.trans {S : Nat → Prop} {a b c : World} (h : Only S a b) (k : Only S b c) : Only S a c :=
  ⟨k.os.trans h.os, k.tape.trans h.tape, k.output.trans h.output, Nat.le_trans h.size k.size, fun i hi hs => (k.block i (Nat.lt_of_lt_of_le hi h.size) hs).trans (h.block i hi hs)⟩
/-- What came later may have turned new blocks besides. -/
theorem Only.trans' {S T : Nat → Prop} {a b c : World} (h : Only S a b) (k : Only T b c) (hT : ∀ i, i < a.heap.size → T i → S i) : Only S a c :=
  ⟨k.os.trans h.os, k.tape.trans h.tape, k.output.trans h.output, Nat.le_trans h.size k.size, fun i hi hs => (k.block i (Nat.lt_of_lt_of_le hi h.size) (fun ht => hs (hT i hi ht))).trans (h.block i hi hs)⟩
theorem Only.mono {S T : Nat → Prop} {a b : World} (h : Only S a b) (hT : ∀ i, i < a.heap.size → S i → T i) : Only T a b := ⟨h.os, h.tape, h.output, h.size, fun i hi hs => h.block i hi (fun hs' => hs (hT i hi hs'))⟩
theorem Only.drew {S : Nat → Prop} {a w : World} (h : Only S a w) : Only S a w.drew := ⟨h.os, h.tape, h.output, h.size, h.block⟩
theorem Only.drewN {S : Nat → Prop} {a w : World} (h : Only S a w) (n : Nat) : Only S a (w.drewN n) := ⟨h.os, h.tape, h.output, h.size, h.block⟩
theorem Only.alloc {S : Nat → Prop} {a w : World} (h : Only S a w) (o : Obj) : Only S a (w.alloc o) :=
  ⟨h.os, h.tape, h.output, Nat.le_trans h.size (by simp), fun i hi hs => (Below.heap_alloc w o i (Nat.lt_of_lt_of_le hi h.size)).trans (h.block i hi hs)⟩
theorem Only.setCell {S : Nat → Prop} {a w : World} (h : Only S a w) {p : Addr} (hp : S p.block ∨ a.heap.size ≤ p.block) (u : Value) : Only S a (w.setCell p u) :=
  ⟨h.os, h.tape, h.output, by simpa [World.setCell] using h.size, fun i hi hs => (Below.heap_setCell w p u i (by
    rintro rfl
    rcases hp with hp | hp
    · exact hs hp
    · omega)).trans (h.block i hi hs)⟩
theorem Only.of_below {S : Nat → Prop} {a w : World} (h : Below a.heap.size a w) : Only S a w := ⟨h.os, h.tape, h.output, h.size, fun i hi _ => h.block i hi⟩
theorem Only.below {a w : World} (h : Only (fun _ => False) a w) : Below a.heap.size a w := ⟨h.os, h.tape, h.output, h.size, fun i hi => h.block i hi id⟩
theorem Only.then0 {S : Nat → Prop} {a b c : World} (h : Only S a b) (k : Only (fun _ => False) b c) : Only S a c := h.trans' k fun _ _ h => h.elim
theorem Only.thenN {S : Nat → Prop} {a b c : World} {g : Nat} (h : Only S a b) (k : Only (· = g) b c) (hg : S g ∨ a.heap.size ≤ g) : Only S a c :=
  h.trans' k fun i hi e => by
    subst e
    rcases hg with hg | hg
    · exact hg
    · omega
theorem Only.of_none {S : Nat → Prop} {a b : World} (h : Only (fun _ => False) a b) : Only S a b := h.mono fun _ _ h => h.elim
/-- Blocks that are new since a may turn. -/
theorem Only.new {S : Nat → Prop} {a b c : World} (h : Only S a b) (k : Only (fun i => a.heap.size ≤ i) b c) : Only S a c := h.trans' k (fun i hi ht => by omega)
theorem Only.cell {S : Nat → Prop} {a w : World} (h : Only S a w) {b o : Nat} {v : Value} (hc : a.cell? ⟨b, o, none⟩ = some v) (hb : ¬ S b) : w.cell? ⟨b, o, none⟩ = some v :=
  (World.cell?_of_block (w := a) (h.block b (cell_lt hc) hb)).trans hc

section
variable {w w' : World} {b o : Nat} {v : Value}
theorem Cell.only {S : Nat → Prop} (h : Cell w b o v) (k : Only S w w') (hb : ¬ S b) : Cell w' b o v :=
  ⟨(World.cell?_of_block (w := w) (k.block b h.lt hb)).trans h.cell, (World.frozen?_of_block (w := w) (k.block b h.lt hb)).trans h.free⟩
theorem Cell.drew (h : Cell w b o v) : Cell w.drew b o v := ⟨h.cell, h.free⟩
theorem Cell.drewN (h : Cell w b o v) (n : Nat) : Cell (w.drewN n) b o v := ⟨h.cell, h.free⟩
theorem Cell.alloc (h : Cell w b o v) (x : Obj) : Cell (w.alloc x) b o v := h.only ((Only.refl (fun _ => False) w).alloc x) id
theorem Cell.far (h : Cell w b o v) {p : Addr} (hp : p ≠ ⟨b, o, none⟩) (u : Value) : Cell (w.setCell p u) b o v :=
  ⟨(World.cell?_setCell_other w p _ u (fun e => hp e)).trans h.cell, (World.frozen?_setCell ..).trans h.free⟩
theorem Cell.set (h : Cell w b o v) (u : Value) : Cell (w.setCell ⟨b, o, none⟩ u) b o u :=
  ⟨World.cell?_setCell_same' _ _ _ (by rw [h.cell]; rfl), (World.frozen?_setCell ..).trans h.free⟩
theorem Cell.new {cs : Array Value} {t : TypeId} (h : cs[o]? = some v) : Cell (w.alloc (.cells cs t)) w.heap.size o v :=
  ⟨by rw [World.cell?_alloc_new]; exact h, by show (match (w.heap.push (.cells cs t))[w.heap.size]? with | some (.cells _ _ (lo, hi)) => decide (lo ≤ o) && decide (o < hi) | _ => false) = false; rw [Array.getElem?_push_size]; simp⟩
end
end Go.Proofs.Ytilngakgofjmpaa

/- Small words for memory, more: operations whose outcome is known. No condition. -/
namespace Go.Proofs.Ytilngakgofjmpaa
set_option linter.unusedVariables false
set_option linter.unusedSimpArgs false
open Go.RowKit

/-- An append whose outcome is known. -/
theorem wpList_append_run {P : Program} {w w' : World} {ops : Array Oper} {rest : List Oper} {o : Oper} {a : Act} {Q : Exit → Act → World → Prop} (hgd : o.guard = none) (s x : Operand) (t : TypeId)
    (ho : o.op = .call { callee := .builtin .append, args := #[s, x], argTypes := #[t, t] }) (v u v' : Value) (hs : a.eval s = v) (hx : a.eval x = u)
    (hrun : (Builtin.append_ #[t, t] o.type #[v, u]).run P w = .ok v' w') (h : wpList P ops Q rest (a.put o.dst v') w') : wpList P ops Q (o :: rest) a w := by
  refine wpList_plain hgd fun K hK => ?_
  unfold Oper.wp
  simp [execOp, ho, resolve, invoke, builtin, hs, hx, hrun, Result.andThen]
  exact hK _ _ h
end Go.Proofs.Ytilngakgofjmpaa

/- Flat data: structs of structs of integers, bools and strings, read off memory cell by cell; slices of such. No condition. -/
namespace Go.Proofs.Ytilngakgofjmpaa
set_option linter.unusedVariables false
set_option linter.unusedSimpArgs false
open Go.ChangeShapes Go.WideShapes Go.ChangeAt Go.RowKit Go.Deep

/-- The kind of one cell. -/
inductive LK where
  | i (k : IntKind)
  | b
  | s

def LK.fits : LK → Value → Prop
  | .i k, v => ∃ x, v = .int k x ∧ (Lit.int k x).wf = true
  | .b, v => ∃ x, v = .bool x
  | .s, v => ∃ x : ByteArray, v = .string x ∧ x.size ≤ maxLen

def Fits : List LK → List Value → Prop
  | [], [] => True
  | k :: ks, v :: vs => k.fits v ∧ Fits ks vs
  | _, _ => False

theorem Fits.append : ∀ {ks ks' : List LK} {vs vs' : List Value}, Fits ks vs → Fits ks' vs' → Fits (ks ++ ks') (vs ++ vs')
  | [], _, [], _, _, h' => h'
  | _ :: _, _, _ :: _, _, h, h' => ⟨h.1, h.2.append h'⟩
  | [], _, _ :: _, _, h, _ => h.elim
  | _ :: _, _, [], _, h, _ => h.elim

theorem Fits.length : ∀ {ks : List LK} {vs : List Value}, Fits ks vs → vs.length = ks.length
  | [], [], _ => rfl
  | _ :: _, _ :: _, h => by simp [h.2.length]
  | [], _ :: _, h => h.elim
  | _ :: _, [], h => h.elim

theorem fits_i {k : IntKind} {ks : List LK} {vs : List Value} (h : Fits (.i k :: ks) vs) : ∃ x vs', vs = .int k x :: vs' ∧ (Lit.int k x).wf = true ∧ Fits ks vs' := by
  cases vs with
  | nil => exact h.elim
  | cons v vs => obtain ⟨⟨x, rfl, hx⟩, h⟩ := h; exact ⟨x, vs, rfl, hx, h⟩
theorem fits_b {ks : List LK} {vs : List Value} (h : Fits (.b :: ks) vs) : ∃ x vs', vs = .bool x :: vs' ∧ Fits ks vs' := by
  cases vs with
  | nil => exact h.elim
  | cons v vs => obtain ⟨⟨x, rfl⟩, h⟩ := h; exact ⟨x, vs, rfl, h⟩
theorem fits_s {ks : List LK} {vs : List Value} (h : Fits (.s :: ks) vs) : ∃ x vs', vs = .string x :: vs' ∧ x.size ≤ maxLen ∧ Fits ks vs' := by
  cases vs with
  | nil => exact h.elim
  | cons v vs => obtain ⟨⟨x, rfl, hx⟩, h⟩ := h; exact ⟨x, vs, rfl, hx, h⟩
theorem fits_nil {vs : List Value} (h : Fits [] vs) : vs = [] := by
  cases vs with
  | nil => rfl
  | cons v vs => exact h.elim

/-- 'Flat P t ks': the type t is laid out as one cell of each kind of ks. -/
inductive Flat (P : Program) : TypeId → List LK → Prop where
  | int {t : TypeId} {k : IntKind} : P.underlying t = some (.int k) → Flat P t [.i k]
  | bool {t : TypeId} : P.underlying t = some .bool → Flat P t [.b]
  | string {t : TypeId} : P.underlying t = some .string → Flat P t [.s]
  | struct {t : TypeId} {fs : Array Field} {kss : List (List LK)} : P.underlying t = some (.struct fs) → P.cellsOf t = kss.flatten.length → kss.length = fs.size →
      (∀ (j : Nat) (f : Field) (ks : List LK), fs[j]? = some f → kss[j]? = some ks → Flat P f.type ks) →
      (∀ (j : Nat) (f : Field) (ks : List LK), fs[j]? = some f → kss[j]? = some ks → f.offset = (kss.take j).flatten.length ∧ P.cellsOf f.type = ks.length) → Flat P t kss.flatten

/-- The kinds, reckoned. -/
def flatK (P : Program) : Nat → TypeId → Option (List LK)
  | 0, _ => none
  | n + 1, t => match P.underlying t with
    | some (.int k) => some [.i k]
    | some .bool => some [.b]
    | some .string => some [.s]
    | some (.struct fs) => match fs.toList.mapM (fun f => flatK P n f.type) with
      | some kss => if P.cellsOf t = kss.flatten.length ∧ (List.range fs.size).all (fun j => match fs[j]?, kss[j]? with
          | some f, some ks => decide (f.offset = (kss.take j).flatten.length) && decide (P.cellsOf f.type = ks.length)
          | _, _ => false) = true then some kss.flatten else none
      | none => none
    | _ => none

theorem flat_of {P : Program} : ∀ {n : Nat} {t : TypeId} {ks : List LK}, flatK P n t = some ks → Flat P t ks := by
  intro n
  induction n with
  | zero => intro t ks h; simp [flatK] at h
  | succ n ih =>
    intro t ks h
    rw [flatK] at h
    split at h
    · rename_i hu; simp at h; subst h; exact .int hu
    · rename_i hu; simp at h; subst h; exact .bool hu
    · rename_i hu; simp at h; subst h; exact .string hu
    · rename_i fs hu
      split at h
      · rename_i kss hm
        split at h
        · rename_i hc
          simp only [Option.some.injEq] at h
          subst h
          obtain ⟨h1, h2⟩ := hc
          have hlen : kss.length = fs.size := by simpa using mapM_some_length hm
          refine .struct hu h1 hlen (fun j f ks hf hk => ?_) (fun j f ks hf hk => ?_)
          · have := mapM_some_get hm j f (by simpa using hf)
            exact ih (this.trans hk)
          · have hj : j < fs.size := (Array.getElem?_eq_some_iff.1 hf).1
            have := List.all_eq_true.1 h2 j (by simpa using hj)
            rw [hf, hk] at this
            simpa using this
        · cases h
      · cases h
    · cases h

theorem fits_tiles {kss : List (List LK)} : ∀ {cs : List Value}, cs.length = kss.flatten.length →
    (∀ (j : Nat) (ks : List LK), kss[j]? = some ks → Fits ks ((cs.drop (kss.take j).flatten.length).take ks.length)) → Fits kss.flatten cs := by
  induction kss with
  | nil =>
    intro cs hl _
    have : cs = [] := by simpa using hl
    subst this; trivial
  | cons ks kss ih =>
    intro cs hl h
    have h0 := h 0 ks rfl
    simp only [List.take_zero, List.flatten_nil, List.length_nil, List.drop_zero] at h0
    have : cs = cs.take ks.length ++ cs.drop ks.length := (List.take_append_drop _ _).symm
    rw [this, List.flatten_cons]
    refine h0.append (ih (by simp at hl ⊢; omega) fun j ks' hj => ?_)
    have := h (j + 1) ks' (by simpa using hj)
    simpa [List.drop_drop, Nat.add_comm] using this

section
variable {H : Type} {enc : TypeId × Value → H} {P : Program} {w : World} {base : Nat} {spare : Nat → Bool} {held : Bool}
theorem Flat.open {t : TypeId} {ks : List LK} (h : Flat P t ks) : ∀ {fuel : Nat} {cs : List Value} {x : DataW H × List MemPlace}, DataW.trod enc P w base spare held fuel t cs = some x → Fits ks cs := by
  induction h with
  | int hu => intro fuel cs x hx; obtain ⟨n, rfl, _, hw⟩ := DataW.trod_int hu hx; exact ⟨⟨n, rfl, hw⟩, trivial⟩
  | bool hu => intro fuel cs x hx; obtain ⟨n, rfl, _⟩ := DataW.trod_bool hu hx; exact ⟨⟨n, rfl⟩, trivial⟩
  | string hu => intro fuel cs x hx; obtain ⟨n, rfl, _, hw⟩ := DataW.trod_string hu hx; exact ⟨⟨n, rfl, hw⟩, trivial⟩
  | @struct t0 fs kss hu hc hl _ hf ih =>
    intro fuel cs x hx
    obtain ⟨xs, n, _, _, hlen, hxl, hg⟩ := DataW.trod_struct hu hx
    refine fits_tiles (hlen.trans hc) fun j ks hj => ?_
    obtain ⟨f, hfj⟩ : ∃ f, fs[j]? = some f := ⟨_, Array.getElem?_eq_getElem (by rw [← hl]; exact (List.getElem?_eq_some_iff.1 hj).1)⟩
    obtain ⟨ho, hk⟩ := hf j f ks hfj hj
    have h1 := hg j f hfj
    have hy : xs[j]? = some (xs[j]'(by rw [hxl, ← hl]; exact (List.getElem?_eq_some_iff.1 hj).1)) := List.getElem?_eq_getElem _
    rw [ho, hk, hy] at h1
    exact ih j f ks hfj hj h1

/-- An argument that is a struct, by value. -/
theorem open_flat {r : Reach} {b0 : Nat} {t : TypeId} {fs : Array Field} {ks : List LK} {v : Value} {d : DataW H} {p : List MemPlace} (hs : P.underlying t = some (.struct fs)) (hF : Flat P t ks)
    (hv : Value.okWide P w r b0 t v) (h : DataW.Trod enc P w base spare held t v d p) : ∃ cs : List Value, v = .agg cs.toArray ∧ Fits ks cs := by
  obtain ⟨cs, rfl, _⟩ := okWide_struct hs hv
  obtain ⟨fuel, hf⟩ := h
  exact ⟨cs.toList, by simp, hF.open hf⟩

/-- The cells of a slice that came in: nil, or len elements, each of them flat. -/
def SliceIn (w : World) (a : Option Addr) (len cap : Nat) (ks : List LK) (rows : List (List Value)) : Prop :=
  rows.length = len ∧ (∀ r ∈ rows, Fits ks r) ∧
  ((a = none ∧ len = 0 ∧ cap = 0) ∨ ∃ x : Addr, a = some x ∧ len ≤ cap ∧ cap ≤ maxLen ∧ ∀ i (r : List Value), rows[i]? = some r → ∀ j v, r[j]? = some v → w.cell? (x.add (i * ks.length + j)) = some v)

theorem open_flats {r : Reach} {b0 : Nat} {t e : TypeId} {ks : List LK} {v : Value} {d : DataW H} {p : List MemPlace} (ht : P.underlying t = some (.slice e)) (hF : Flat P e ks) (hC : P.cellsOf e = ks.length) (_ : 0 < ks.length)
    (hv : Value.okWide P w r b0 t v) (h : DataW.Trod enc P w base spare held t v d p) : ∃ a len cap rows, v = .slice a len cap ∧ SliceIn w a len cap ks rows ∧ ((d = .nil ∧ len = 0) ∨ ∃ el sp, d = .slice el sp ∧ el.length = len) := by
  obtain ⟨a, len, cap, rfl⟩ := okWide_slice ht hv
  obtain ⟨fuel, hf⟩ := h
  rcases open_slice ht hf with ⟨hcs, hd⟩ | ⟨x, len', cap', m, n, D, Pl, hcs, hb, hl, hm, hmm, hx, hi⟩
  · simp [Value.cells] at hcs
    obtain ⟨rfl, rfl, rfl⟩ := hcs
    exact ⟨_, _, _, [], rfl, ⟨rfl, by simp, .inl ⟨rfl, rfl, rfl⟩⟩, .inl ⟨(Prod.mk.inj hd).1, rfl⟩⟩
  · simp [Value.cells] at hcs
    obtain ⟨rfl, rfl, rfl⟩ := hcs
    have hlm : len ≤ m := by rw [hmm]; split <;> omega
    have hrow : ∀ i, i < len → ∃ cs', w.cells? base (x.add (i * P.cellsOf e)) (P.cellsOf e) = some cs' ∧ Fits ks cs' := fun i hil => by
      obtain ⟨cs', h1, h2⟩ := hi i (by omega)
      exact ⟨cs', h1, hF.open h2⟩
    have hch : ∃ g : Nat → List Value, ∀ i, i < len → w.cells? base (x.add (i * P.cellsOf e)) (P.cellsOf e) = some (g i) ∧ Fits ks (g i) :=
      ⟨fun i => if h : i < len then Classical.choose (hrow i h) else [], fun i h => by simp only [dif_pos h]; exact Classical.choose_spec (hrow i h)⟩
    obtain ⟨g, hg⟩ := hch
    refine ⟨_, _, _, (List.range len).map g, rfl, ⟨by simp, ?_, .inr ⟨x, rfl, hl, hm, ?_⟩⟩, .inr ⟨_, _, (Prod.mk.inj hx).1, by simp⟩⟩
    · intro r hr
      obtain ⟨i, hi', rfl⟩ := List.mem_map.1 hr
      exact (hg i (by simpa using hi')).2
    · intro i r hr j v hj
      have hil : i < len := by have := (List.getElem?_eq_some_iff.1 hr).1; simpa using this
      have hri : r = g i := by simp [hil] at hr; exact hr.symm
      obtain ⟨h1, h2⟩ := hg i hil
      obtain ⟨_, hcl, hat⟩ := World.cells?_some h1
      have hjl : j < ks.length := by rw [← h2.length, ← hri]; exact (List.getElem?_eq_some_iff.1 hj).1
      have := hat j (by omega)
      rw [← Go.Deep.add_add, ← hC, this, ← hri, hj]

/-- A slice's length, by its weight. -/
theorem flats_sized {ts : List TypeId} {ds : List (DataW H)} {j : Nat} {t e : TypeId} {d : DataW H} {len B : Nat} (hsz : (DataW.weightsEach P ts ds).all (· ≤ reachBytes) = true) (ht : ts[j]? = some t) (hd : ds[j]? = some d) (hu : P.underlying t = some (.slice e))
    (hB : P.bytesOf e = B) (h : (d = .nil ∧ len = 0) ∨ ∃ el sp, d = .slice el sp ∧ el.length = len) : len * B ≤ 140737488351232 := by
  rcases h with ⟨_, rfl⟩ | ⟨el, sp, rfl, rfl⟩
  · simp
  · have z := sized_slice hsz ht hd hu
    rw [hB] at z
    exact Nat.le_trans (Nat.mul_le_mul_right _ (Nat.le_add_right _ _)) z
end
end Go.Proofs.Ytilngakgofjmpaa

/- Flat data, more: where the cells of a slice that came in lie. No condition. -/
namespace Go.Proofs.Ytilngakgofjmpaa
set_option linter.unusedVariables false
set_option linter.unusedSimpArgs false
open Go.ChangeShapes Go.WideShapes Go.ChangeAt Go.RowKit Go.Deep
theorem spot_of_cell {w : World} {x : Addr} {v : Value} (h : w.cell? x = some v) : x.spot = none := by
  unfold World.cell? at h
  split at h
  · split at h
    · cases h
    · rename_i hs; simpa using hs
  · cases h
theorem add_of_none {x : Addr} (h : x.spot = none) (n : Nat) : x.add n = ⟨x.block, x.off + n, none⟩ := by
  unfold Addr.add
  by_cases h0 : n = 0
  · subst h0; cases x; simp_all
  · rw [if_neg h0]

/-- A slice that came in and has an element: where its cells lie. -/
theorem SliceIn.at_ {w : World} {a : Option Addr} {len cap : Nat} {ks : List LK} {rows : List (List Value)} (h : SliceIn w a len cap ks rows) (hl : 0 < len) (hk : 0 < ks.length) :
    ∃ B off, a = some ⟨B, off, none⟩ ∧ B < w.heap.size ∧ ∀ i (r : List Value), rows[i]? = some r → ∀ j v, r[j]? = some v → w.cell? ⟨B, off + i * ks.length + j, none⟩ = some v := by
  obtain ⟨hlen, hf, h⟩ := h
  rcases h with ⟨_, h0, _⟩ | ⟨x, rfl, _, _, hc⟩
  · omega
  · have hr : rows[0]? = some (rows[0]'(by omega)) := List.getElem?_eq_getElem _
    have hrl := (hf _ (List.getElem_mem (show 0 < rows.length by omega))).length
    have hv : (rows[0]'(by omega))[0]? = some ((rows[0]'(by omega))[0]'(by omega)) := List.getElem?_eq_getElem _
    have h0 := hc 0 _ hr 0 _ hv
    have e00 : 0 * ks.length + 0 = 0 := by omega
    rw [e00] at h0
    have hs : x.spot = none := spot_of_cell (x := x) (by simpa [Addr.add] using h0)
    rw [add_of_none hs] at h0
    refine ⟨x.block, x.off, by cases x; simp_all, ?_, fun i r hi j v hj => ?_⟩
    · unfold World.cell? at h0
      rcases Nat.lt_or_ge x.block w.heap.size with hlt | hge
      · exact hlt
      · simp only [Array.getElem?_eq_none hge] at h0; cases h0
    · have h1 := hc i r hi j v hj
      rw [add_of_none hs, ← Nat.add_assoc] at h1
      exact h1

end Go.Proofs.Ytilngakgofjmpaa

/- General words: rows, makes, marks, appends. No condition. -/
namespace Go.Proofs.Ytilngakgofjmpaa
set_option linter.unusedVariables false
set_option linter.unusedSimpArgs false
open Go.RowKit Go.Shelf

def upd {α : Type} (f : Nat → α) (k : Nat) (v : α) : Nat → α := fun i => if i = k then v else f i
theorem upd_same {α : Type} (f : Nat → α) (k : Nat) (v : α) : upd f k v k = v := if_pos rfl
theorem upd_other {α : Type} {f : Nat → α} {k i : Nat} {v : α} (h : i ≠ k) : upd f k v i = f i := if_neg h
theorem cell_of_blk {w : World} {g : Nat} {cs : List Value} {t : TypeId} (h : w.heap[g]? = some (.cells cs.toArray t (0, 0))) {i : Nat} {v : Value} (hi : cs[i]? = some v) : Cell w g i v :=
  ⟨by unfold World.cell?; simp only [h]; simpa using hi, by unfold World.frozen?; simp only [h]; simp⟩
theorem run_makeN {P : Program} (t e : TypeId) (i : TypeInfo) (z : Value) (ht : P.underlying t = some (.slice e)) (hi : P.info? e = some i) (hz : i.zero = some z) {s : Nat} (hs : i.size = s)
    (n : Nat) (hbytes : i.bytes * n ≤ 281474976710656) (h63 : n ≤ 9223372036854775807) (w : World) :
    (Instr.makeSlice t (.int .i64 (n : Int)) (.int .i64 (n : Int))).run P w = .ok (.slice (some ⟨w.heap.size, 0, none⟩) n n) (w.alloc (.cells (madeCells z.cells (n * s)) e)) := by
  have hb : (i.bytes : Int) * (n : Int) ≤ 281474976710656 := by
    have h : ((i.bytes * n : Nat) : Int) ≤ 281474976710656 := by omega
    rwa [Int.natCast_mul] at h
  have hr := run_make (P := P) w t e i z ht hi hz .i64 .i64 n n (by omega) (by omega) hb (by omega)
  simp only [Int.toNat_natCast, hs] at hr
  exact hr
theorem hp_new {w : World} {o : Obj} {k : Nat} (h : k = w.heap.size) : (w.alloc o).heap[k]? = some o := by subst h; exact heap_alloc_new w o
theorem hp_old {w : World} {x : Obj} {k : Nat} (h : w.heap[k]? = some x) (o : Obj) : (w.alloc o).heap[k]? = some x := (Below.heap_alloc w o k (Array.getElem?_eq_some_iff.1 h).1).trans h
theorem hp_drew {w : World} {x : Obj} {k : Nat} (h : w.heap[k]? = some x) : w.drew.heap[k]? = some x := h
theorem hp_drewN {w : World} {x : Obj} {k : Nat} (h : w.heap[k]? = some x) (n : Nat) : (w.drewN n).heap[k]? = some x := h
theorem made_at {z : Array Value} {s n i j : Nat} {v : Value} (hs : z.size = s) (hi : i < n) (hj : z[j]? = some v) : (madeCells z (n * s)).toList[i * s + j]? = some v := by
  have hjs : j < s := by rw [← hs]; exact (Array.getElem?_eq_some_iff.1 hj).1
  have hlt : i * s + j < n * s := by
    have : (i + 1) * s ≤ n * s := Nat.mul_le_mul_right _ hi
    rw [Nat.add_mul] at this; omega
  have hm : (i * s + j) % s = j := by rw [Nat.mul_comm, Nat.mul_add_mod]; exact Nat.mod_eq_of_lt hjs
  have e1 : z[(i * s + j) % z.size]! = v := by
    rw [hs, hm, getElem!_def, hj]
  simp only [madeCells, Array.toList_map, List.getElem?_map, Array.toList_range, List.getElem?_range hlt, Option.map_some, e1]
theorem ownsRow_only {w w' : World} {S : Nat → Prop} {base : Nat} {e : TypeId} {size : Nat} {v : Value} {n : Nat} {xs : List Value} (h : w.ownsRow base e size v n xs) (k : Only S w w') (hS : ∀ i, base ≤ i → ¬ S i) : w'.ownsRow base e size v n xs := by
  refine ⟨h.1, ?_⟩
  rcases h.2 with hn | ⟨g, cap, cur, rfl, hb, hgg, rest⟩
  · exact .inl hn
  · exact .inr ⟨g, cap, cur, rfl, hb, (k.block g (Array.getElem?_eq_some_iff.1 hgg).1 (hS g hb)).trans hgg, rest⟩
theorem own_cell {w : World} {base : Nat} {e : TypeId} {size : Nat} {v : Value} {n : Nat} {xs : List Value} (h : w.ownsRow base e size v n xs) (hn : 0 < n) : ∃ g cap, v = .slice (some ⟨g, 0, none⟩) n cap ∧ n ≤ cap ∧ base ≤ g ∧ g < w.heap.size ∧ ∀ j u, xs[j]? = some u → Cell w g j u := by
  rcases h.2 with ⟨_, e⟩ | ⟨g, cap, cur, rfl, hb, hgg, h1, h2, h3, h4⟩
  · omega
  · refine ⟨g, cap, rfl, h1, hb, (Array.getElem?_eq_some_iff.1 hgg).1, fun j u hu => ?_⟩
    have hc := h.cells rfl j u hu
    rw [show (⟨g, 0, none⟩ : Addr).add j = ⟨g, j, none⟩ by unfold Addr.add; split <;> simp_all] at hc
    exact ⟨hc, by simp [World.frozen?, hgg]⟩
theorem own_slice {w : World} {base : Nat} {e : TypeId} {size : Nat} {v : Value} {n : Nat} {xs : List Value} (h : w.ownsRow base e size v n xs) : ∃ a cap, v = .slice a n cap ∧ n ≤ cap := by
  rcases h.2 with ⟨rfl, rfl⟩ | ⟨g, cap, cur, rfl, _, _, h1, _⟩
  · exact ⟨_, _, rfl, Nat.le_refl _⟩
  · exact ⟨_, _, rfl, h1⟩
theorem Only.of_grown {w w' : World} {row : Option Nat} {S : Nat → Prop} (hg : w.grownBy w' row) (hr : ∀ r, row = some r → S r) : Only S w w' :=
  ⟨hg.os, hg.tape, hg.output, hg.size, fun i hi hs => hg.block i hi (fun e => hs (hr i e.symm))⟩
theorem cell_pair_new (w : World) (x y : Value) (t : TypeId) : ∀ j u, [x, y][j]? = some u → (w.alloc (.cells #[x, y] t)).cell? ((⟨w.heap.size, 0, none⟩ : Addr).add j) = some u := by
  intro j u h
  rw [show (⟨w.heap.size, 0, none⟩ : Addr).add j = ⟨w.heap.size, j, none⟩ by unfold Addr.add; split <;> simp_all]
  exact (Cell.new (cs := #[x, y]) (by simpa using h)).cell
/-- An append onto a slice of one's own, at a step of a region that draws its order. -/
theorem step_append_own_at {P : Program} {w : World} {ops : Array Oper} {o : Oper} {a : Act} {K : Act → World → Prop} {Q : Exit → Act → World → Prop} {E : Prop} (hgd : o.guard = none) (s x : Operand) (t : TypeId)
    (ho : o.op = .call { callee := .builtin .append, args := #[s, x], argTypes := #[t, t] })
    (base : Nat) (e : TypeId) (i : TypeInfo) (z : Value) (size bytes : Nat) (ht : P.underlying t = some (.slice e)) (hi : P.info? e = some i) (hz : i.zero = some z)
    (hsize : i.size = size) (hby : i.bytes = bytes) (hzs : z.cells.size = size) (hsz : 0 < size)
    (v : Value) (n : Nat) (xs : List Value) (hs : a.eval s = v) (hown : w.ownsRow base e size v n xs)
    (ad : Addr) (m c : Nat) (news : List Value) (hx : a.eval x = .slice (some ad) m c) (hl : news.length = m * size) (hnews : ∀ j u, news[j]? = some u → w.cell? (ad.add j) = some u) (h1 : ∀ u ∈ news, u.oneCell' = true)
    (h63 : n + m ≤ maxLen) (hbytes : (n + m) * bytes ≤ 140737488355328) (hbase : base ≤ w.heap.size)
    (h : ∀ v' w', w'.ownsRow base e size v' (n + m) (xs ++ news) → w.grownBy w' v.ownBlock → (v'.ownBlock = v.ownBlock ∨ v'.ownBlock = some w.heap.size) → K (a.put o.dst v') w') :
    if Region.wanted o (yielded ops a.tmps) = true then Oper.wp P o a w K Q else E := by
  have hw : Region.wanted o (yielded ops a.tmps) = true := by simp [Region.wanted, hgd]
  rw [if_pos hw]
  obtain ⟨v', w', hr, h2, h3, h4, h5⟩ := run_append_own_at (P := P) w base t o.type e i z size bytes ht hi hz hsize hby hzs hsz v n xs hown ad m c news hl hnews h1 h63 hbytes hbase
  unfold Oper.wp execOp
  simp only [ho, resolve, invoke, builtin, Sem.run_bind, Sem.run_pure, Result.andThen_ok, List.map_toArray, List.map_cons, List.map_nil, hs, hx, hr]
  exact h v' w' h2 h3 h5
theorem own_block {w : World} {base : Nat} {e : TypeId} {size : Nat} {v : Value} {n : Nat} {xs : List Value} (h : w.ownsRow base e size v n xs) : v.ownBlock = none ∨ ∃ g, v.ownBlock = some g ∧ base ≤ g := by
  rcases h.2 with ⟨rfl, _⟩ | ⟨g, cap, cur, rfl, hb, _⟩
  · exact .inl rfl
  · exact .inr ⟨g, rfl, hb⟩
theorem cells_made {w : World} {g k : Nat} {z : Value} {t : TypeId} (h : w.heap[g]? = some (.cells (madeCells #[z] k) t (0, 0))) : ∀ i, i < k → Cell w g i z := fun i hi => by
  rw [show madeCells #[z] k = (madeCells #[z] k).toList.toArray by simp, toList_madeCells_one] at h
  exact cell_of_blk h (by simp [hi])
/-- These blocks lie as they lay. -/
def KeepB (S : Nat → Prop) (W W' : World) : Prop := ∀ i, S i → W'.heap[i]? = W.heap[i]?
theorem KeepB.refl (S : Nat → Prop) (W : World) : KeepB S W W := fun _ _ => rfl
theorem KeepB.trans {S : Nat → Prop} {A B C : World} (h : KeepB S A B) (k : KeepB S B C) : KeepB S A C := fun i hi => (k i hi).trans (h i hi)
theorem KeepB.put {S : Nat → Prop} {w : World} (hS : ∀ i, S i → i < w.heap.size) (W : World) (l : Nat) (o o' : Obj) (hl : w.heap.size ≤ l) (_ : W.heap[l]? = some o) (_ : o.isCells = false) (_ : o.isWalk = false) : KeepB S W (W.putObj l o') :=
  fun i hi => World.putObj_heap_other (by have := hS i hi; omega)
theorem KeepB.only {S T : Nat → Prop} {W W' : World} (h : Only T W W') (hS : ∀ i, S i → i < W.heap.size ∧ ¬ T i) : KeepB S W W' := fun i hi => h.block i (hS i hi).1 (hS i hi).2
theorem Cell.blk {W W' : World} {b o : Nat} {v : Value} (h : Cell W b o v) (e : W'.heap[b]? = W.heap[b]?) : Cell W' b o v := ⟨(World.cell?_of_block e).trans h.cell, (World.frozen?_of_block e).trans h.free⟩
theorem lt_of_blk {W W' : World} {b : Nat} (h : b < W.heap.size) (e : W'.heap[b]? = W.heap[b]?) : b < W'.heap.size := by
  rcases Nat.lt_or_ge b W'.heap.size with h1 | h1
  · exact h1
  · rw [Array.getElem?_eq_none h1, Array.getElem?_eq_getElem h] at e; cases e
theorem Only.grown {S : Nat → Prop} {a w w' : World} {row : Option Nat} (h : Only S a w) (hg : w.grownBy w' row) (hr : ∀ r, row = some r → a.heap.size ≤ r) : Only S a w' :=
  ⟨hg.os.trans h.os, hg.tape.trans h.tape, hg.output.trans h.output, Nat.le_trans h.size hg.size, fun i hi hs => (hg.block i (Nat.lt_of_lt_of_le hi h.size) (fun e => by have := hr i e.symm; omega)).trans (h.block i hi hs)⟩
theorem Cell.grown {w w' : World} {row : Option Nat} {b o : Nat} {v : Value} (h : Cell w b o v) (hg : w.grownBy w' row) (hr : ∀ r, row = some r → b < r) : Cell w' b o v :=
  h.blk (hg.block b h.lt (fun e => by have := hr b e.symm; omega))
theorem keepsFrom_of_only {T : Nat → Prop} {B : Nat} {W W' : World} (h : Only T W W') (hT : ∀ i, T i → i < B) : KeepsFrom B W W' :=
  ⟨h.size, fun k o hB hk _ => (h.block k (Array.getElem?_eq_some_iff.1 hk).1 (fun ht => by have := hT k ht; omega)).trans hk⟩
theorem Only.putObj {S : Nat → Prop} {a w : World} (h : Only S a w) {l : Nat} (hl : S l ∨ a.heap.size ≤ l) (o : Obj) : Only S a (w.putObj l o) := by
  refine ⟨h.os, h.tape, h.output, ?_, fun i hi hs => ?_⟩
  · have := (grownBy_putObj' w l o).size
    exact Nat.le_trans h.size this
  · refine (World.putObj_heap_other ?_).trans (h.block i hi hs)
    rintro rfl
    rcases hl with h1 | h1
    · exact hs h1
    · omega
def marks (Ds : List Nat) : List Deferred := Ds.map fun D => { target := .collected D, args := #[] }
theorem leaves_marks {F : Fence} {n : Nat} {P : Program} {fn : Func} {tmps : Array Value} {R : Ending → World → Prop} : ∀ (Ds : List Nat) (w : World), Ds.Nodup → (∀ D ∈ Ds, w.heap[D]? = some (.deferred (some []))) →
    (∀ w', Only (· ∈ Ds) w w' → LeavesInM F n P fn tmps R [] .returning w') → LeavesInM F n P fn tmps R (marks Ds) .returning w := by
  intro Ds
  induction Ds with
  | nil => intro w _ _ h; exact h w (Only.refl _ _)
  | cons D Ds ih =>
    intro w hn hD h
    have h2 := List.nodup_cons.1 hn
    refine ⟨by simp, .inl ⟨D, _, rfl, run_takeDeferred (hD D (by simp)), ?_⟩⟩
    refine ih _ h2.2 (fun E hE => ?_) (fun w' ho => h w' ?_)
    · rw [World.putObj_heap_other (fun e => h2.1 (by rw [← e]; exact hE))]; exact hD E (by simp [hE])
    · refine Only.trans ((Only.refl _ w).putObj (.inl (by simp)) _) (ho.mono fun i _ hi => by simp [hi])
theorem Only.setRow {S : Nat → Prop} {a w : World} (h : Only S a w) {g : Nat} (hg : S g ∨ a.heap.size ≤ g) (cs : Array Value) : Only S a (w.setRow g cs) :=
  ⟨h.os, h.tape, h.output, by rw [size_setRow]; exact h.size, fun i hi hs => (setRow_other w g i cs (by
    rintro rfl
    rcases hg with h1 | h1
    · exact hs h1
    · omega)).trans (h.block i hi hs)⟩
/-- Whole numbers that came in. -/
theorem SliceIn.ints {w : World} {a : Option Addr} {len cap : Nat} {rows : List (List Value)} (h : SliceIn w a len cap [.i .i64] rows) :
    ∃ (xs : Nat → Int) (B off : Nat), (0 < len → a = some ⟨B, off, none⟩ ∧ B < w.heap.size) ∧ ∀ k, k < len → w.cell? ⟨B, off + k, none⟩ = some (.int .i64 (xs k)) ∧ (Lit.int .i64 (xs k)).wf = true := by
  by_cases h0 : 0 < len
  · obtain ⟨B, off, ha, hB, hc⟩ := h.at_ h0 (by decide)
    have hx : ∀ k, ∃ x : Int, k < len → rows[k]? = some [.int .i64 x] ∧ (Lit.int .i64 x).wf = true := by
      intro k
      by_cases hk : k < len
      · obtain ⟨r, hr⟩ : ∃ r, rows[k]? = some r := ⟨_, List.getElem?_eq_getElem (by rw [h.1]; exact hk)⟩
        obtain ⟨x, _, rfl, hw, hf⟩ := fits_i (h.2.1 r (List.mem_of_getElem? hr))
        obtain rfl := fits_nil hf
        exact ⟨x, fun _ => ⟨hr, hw⟩⟩
      · exact ⟨0, fun h => absurd h hk⟩
    refine ⟨fun k => (hx k).choose, B, off, fun _ => ⟨ha, hB⟩, fun k hk => ?_⟩
    obtain ⟨h1, h2⟩ := (hx k).choose_spec hk
    have h3 := hc k _ h1 0 _ rfl
    simp only [List.length_cons, List.length_nil, Nat.zero_add, Nat.mul_one, Nat.add_zero] at h3
    exact ⟨h3, h2⟩
  · exact ⟨fun _ => 0, 0, 0, fun h => absurd h h0, fun k hk => by omega⟩
end Go.Proofs.Ytilngakgofjmpaa
