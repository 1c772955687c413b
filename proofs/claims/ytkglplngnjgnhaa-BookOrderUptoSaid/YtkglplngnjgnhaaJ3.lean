/- Slots, the plain side: an arena as numbers: links, rows, and a heap of free numbers. No condition. -/
import Derived.RowKit
import Derived.Test.YtkglplngnjgnhaaRows
import Derived.Test.YtkglplngnjgnhaaJ1
import Derived.BigRegion
import Derived.Laws.MakeOwn
import Derived.Laws.OwnMore
namespace Go.Proofs.Ytkglplngnjgnhaa
set_option linter.unusedVariables false
set_option linter.unusedSimpArgs false
namespace Od
open Go.RowKit

def upd {α : Type} (f : Nat → α) (k : Nat) (v : α) : Nat → α := fun i => if i = k then v else f i
def swp {α : Type} (f : Nat → α) (i k : Nat) : Nat → α := upd (upd f i (f k)) k (f i)
theorem upd_same {α : Type} (f : Nat → α) (k : Nat) (v : α) : upd f k v k = v := if_pos rfl
theorem upd_other {α : Type} {f : Nat → α} {k i : Nat} {v : α} (h : i ≠ k) : upd f k v i = f i := if_neg h

/-- A number goes up the heap. -/
def siftUp : Nat → (Nat → Int) → Nat → (Nat → Int)
  | 0, f, _ => f
  | n + 1, f, i => if i = 0 then f else if f ((i - 1) / 2) < f i then f else siftUp n (swp f ((i - 1) / 2) i) ((i - 1) / 2)
/-- The lesser one of two below, if there are two. -/
def down (f : Nat → Int) (i e : Nat) : Nat := if 2 * i + 2 < e ∧ f (2 * i + 2) < f (2 * i + 1) then 2 * i + 2 else 2 * i + 1
/-- A number goes down the heap. -/
def siftDown : Nat → (Nat → Int) → Nat → Nat → (Nat → Int)
  | 0, f, _, _ => f
  | n + 1, f, i, e => if e ≤ down f i e ∨ f i < f (down f i e) then f else siftDown n (swp f i (down f i e)) (down f i e) e

theorem siftUp_more : ∀ (n m : Nat) (f : Nat → Int) (i : Nat), i < n → i < m → siftUp n f i = siftUp m f i := by
  intro n
  induction n with
  | zero => intro m f i h; omega
  | succ n ih =>
    intro m f i h hm
    cases m with
    | zero => omega
    | succ m =>
      simp only [siftUp]
      by_cases h0 : i = 0
      · rw [if_pos h0, if_pos h0]
      · rw [if_neg h0, if_neg h0]
        split
        · rfl
        · exact ih m _ _ (by omega) (by omega)
theorem down_lt (f : Nat → Int) (i e : Nat) : i < down f i e ∧ down f i e ≤ 2 * i + 2 := by unfold down; split <;> omega
theorem siftDown_more : ∀ (n m : Nat) (f : Nat → Int) (i e : Nat), e ≤ i + n → e ≤ i + m → 0 < n → 0 < m → siftDown n f i e = siftDown m f i e := by
  intro n
  induction n with
  | zero => intro m f i e _ _ h; omega
  | succ n ih =>
    intro m f i e h hm _ h0
    cases m with
    | zero => omega
    | succ m =>
      simp only [siftDown]
      have := down_lt f i e
      by_cases hc : e ≤ down f i e ∨ f i < f (down f i e)
      · rw [if_pos hc, if_pos hc]
      · rw [if_neg hc, if_neg hc]
        exact ih m _ _ _ (by omega) (by omega) (by omega) (by omega)

/-- An arena in memory: the blocks of its links, rows and free numbers; how many links and rows it has, how many numbers are free; of each link the thing, the row, the one ahead, the one behind; of each row the first, the last, how many; the heap. -/
structure Ar where
  gl : Nat
  gr : Nat
  gf : Nat
  room : Nat
  nr : Nat
  nf : Nat
  th : Nat → Value
  ro : Nat → Int
  ah : Nat → Int
  fa : Nat → Int
  rf : Nat → Int
  rl : Nat → Int
  rn : Nat → Int
  fr : Nat → Int

def Ar.give (A : Ar) (n : Int) : Ar := { A with nf := A.nf + 1, fr := siftUp (A.nf + 1) (upd A.fr A.nf n) A.nf }
def Ar.least (A : Ar) : Ar := { A with nf := A.nf - 1, fr := siftDown A.nf (upd A.fr 0 (A.fr (A.nf - 1))) 0 (A.nf - 1) }
end Od
end Go.Proofs.Ytkglplngnjgnhaa

/- Slots: the walks over the heap of free numbers. Conditions: an arena as New lays it. -/
namespace Go.Proofs.Ytkglplngnjgnhaa
set_option linter.unusedVariables false
set_option linter.unusedSimpArgs false
namespace Od
open Go.RowKit

def freeV (A : Ar) : List Value := (List.range A.room).map fun i => .int .i64 (A.fr i)

structure ArAt (w : World) (b : Nat) (A : Ar) : Prop where
  c0 : Cell w b 0 (.slice (some ⟨A.gl, 0, none⟩) A.room A.room)
  c1 : Cell w b 1 (.slice (some ⟨A.gr, 0, none⟩) A.nr A.nr)
  c2 : Cell w b 2 (.slice (some ⟨A.gf, 0, none⟩) A.nf A.room)
  l0 : ∀ i, i < A.room → ∀ c u, (A.th i).cells[c]? = some u → Cell w A.gl (i * 8 + c) u
  l1 : ∀ i, i < A.room → Cell w A.gl (i * 8 + 5) (.int .i64 (A.ro i))
  l2 : ∀ i, i < A.room → Cell w A.gl (i * 8 + 6) (.int .i64 (A.ah i))
  l3 : ∀ i, i < A.room → Cell w A.gl (i * 8 + 7) (.int .i64 (A.fa i))
  r0 : ∀ i, i < A.nr → Cell w A.gr (i * 3) (.int .i64 (A.rf i))
  r1 : ∀ i, i < A.nr → Cell w A.gr (i * 3 + 1) (.int .i64 (A.rl i))
  r2 : ∀ i, i < A.nr → Cell w A.gr (i * 3 + 2) (.int .i64 (A.rn i))
  f : w.heap[A.gf]? = some (.cells (freeV A).toArray 3 (0, 0))
  lr : A.gl < w.heap.size ∧ A.gr < w.heap.size
  n1 : b ≠ A.gl
  n2 : b ≠ A.gr
  n3 : b ≠ A.gf
  n4 : A.gl ≠ A.gr
  n5 : A.gl ≠ A.gf
  n6 : A.gr ≠ A.gf
  small : A.room ≤ 65536 ∧ A.nr ≤ 65536 ∧ A.nf ≤ A.room
  tc : ∀ i, i < A.room → (A.th i).cells.size = 5

theorem cell_of_blk {w : World} {g : Nat} {cs : List Value} {t : TypeId} (h : w.heap[g]? = some (.cells cs.toArray t (0, 0))) {i : Nat} {v : Value} (hi : cs[i]? = some v) : Cell w g i v :=
  ⟨by unfold World.cell?; simp only [h]; simpa using hi, by unfold World.frozen?; simp only [h]; simp⟩

theorem freeV_at {A : Ar} {i : Nat} (h : i < A.room) : (freeV A)[i]? = some (.int .i64 (A.fr i)) := by simp [freeV, h]
theorem ArAt.fc {w : World} {b : Nat} {A : Ar} (h : ArAt w b A) {i : Nat} (hi : i < A.room) : Cell w A.gf i (.int .i64 (A.fr i)) := cell_of_blk h.f (freeV_at hi)
theorem ArAt.gf_lt {w : World} {b : Nat} {A : Ar} (h : ArAt w b A) : A.gf < w.heap.size := by
  rcases Nat.lt_or_ge A.gf w.heap.size with hlt | hge
  · exact hlt
  · have := h.f; rw [Array.getElem?_eq_none hge] at this; cases this

/-- The blocks of an arena. -/
def Ar.blk (A : Ar) (b : Nat) (i : Nat) : Prop := i = b ∨ i = A.gl ∨ i = A.gr ∨ i = A.gf

theorem ArAt.only {w w' : World} {b : Nat} {A : Ar} {S : Nat → Prop} (h : ArAt w b A) (k : Only S w w') (hb : ¬ S b) (hl : ¬ S A.gl) (hr : ¬ S A.gr) (hf : ¬ S A.gf) : ArAt w' b A :=
  ⟨h.c0.only k hb, h.c1.only k hb, h.c2.only k hb, fun i hi c u hu => (h.l0 i hi c u hu).only k hl, fun i hi => (h.l1 i hi).only k hl, fun i hi => (h.l2 i hi).only k hl, fun i hi => (h.l3 i hi).only k hl,
    fun i hi => (h.r0 i hi).only k hr, fun i hi => (h.r1 i hi).only k hr, fun i hi => (h.r2 i hi).only k hr, (k.block _ h.gf_lt hf).trans h.f, ⟨Nat.lt_of_lt_of_le h.lr.1 k.size, Nat.lt_of_lt_of_le h.lr.2 k.size⟩,
    h.n1, h.n2, h.n3, h.n4, h.n5, h.n6, h.small, h.tc⟩

theorem ArAt.drew {w : World} {b : Nat} {A : Ar} (h : ArAt w b A) : ArAt w.drew b A := h.only ((Only.refl (fun _ => False) w).drew) id id id id
theorem ArAt.drewN {w : World} {b : Nat} {A : Ar} (h : ArAt w b A) (n : Nat) : ArAt (w.drewN n) b A := h.only ((Only.refl (fun _ => False) w).drewN n) id id id id
theorem ArAt.alloc {w : World} {b : Nat} {A : Ar} (h : ArAt w b A) (o : Obj) : ArAt (w.alloc o) b A := h.only ((Only.refl (fun _ => False) w).alloc o) id id id id

/-- A free number's place is written. -/
theorem ArAt.setf {w : World} {b : Nat} {A : Ar} (h : ArAt w b A) {i : Nat} (hi : i < A.room) (x : Int) : ArAt (w.setCell ⟨A.gf, i, none⟩ (.int .i64 x)) b { A with fr := upd A.fr i x } := by
  have far : ∀ {g o : Nat} {v : Value}, Cell w g o v → g ≠ A.gf → Cell (w.setCell ⟨A.gf, i, none⟩ (.int .i64 x)) g o v := fun hc hg => hc.far (blk_ne (Ne.symm hg)) _
  refine ⟨far h.c0 h.n3, far h.c1 h.n3, far h.c2 h.n3, fun k hk c u hu => far (h.l0 k hk c u hu) h.n5, fun k hk => far (h.l1 k hk) h.n5, fun k hk => far (h.l2 k hk) h.n5, fun k hk => far (h.l3 k hk) h.n5, fun k hk => far (h.r0 k hk) h.n6, fun k hk => far (h.r1 k hk) h.n6, fun k hk => far (h.r2 k hk) h.n6,
    ?_, by simpa [World.setCell] using h.lr, h.n1, h.n2, h.n3, h.n4, h.n5, h.n6, h.small, h.tc⟩
  have := h.f
  simp only [World.setCell, Array.getElem?_modify, if_pos, this, Option.map_some, Option.isSome_none, Bool.false_eq_true, if_false]
  congr 2
  simp only [List.setIfInBounds_toArray, freeV, Array.mk.injEq]
  apply List.ext_getElem?
  intro k
  rw [List.getElem?_set]
  by_cases hk : i = k
  · subst hk
    simp [hi, upd]
  · rw [if_neg hk]
    by_cases hkr : k < A.room
    · simp [hkr, upd, Ne.symm hk]
    · simp [hkr]

/-- How many are free is written. -/
theorem ArAt.setn {w : World} {b : Nat} {A : Ar} (h : ArAt w b A) {n : Nat} (hn : n ≤ A.room) : ArAt (w.setCell ⟨b, 2, none⟩ (.slice (some ⟨A.gf, 0, none⟩) n A.room)) b { A with nf := n } := by
  have far : ∀ {g o : Nat} {v : Value}, Cell w g o v → b ≠ g → Cell (w.setCell ⟨b, 2, none⟩ (.slice (some ⟨A.gf, 0, none⟩) n A.room)) g o v := fun hc hg => hc.far (blk_ne hg) _
  refine ⟨h.c0.far (off_ne (by omega)) _, h.c1.far (off_ne (by omega)) _, h.c2.set _, fun k hk c u hu => far (h.l0 k hk c u hu) h.n1, fun k hk => far (h.l1 k hk) h.n1, fun k hk => far (h.l2 k hk) h.n1, fun k hk => far (h.l3 k hk) h.n1, fun k hk => far (h.r0 k hk) h.n2, fun k hk => far (h.r1 k hk) h.n2, fun k hk => far (h.r2 k hk) h.n2,
    ?_, by simpa [World.setCell] using h.lr, h.n1, h.n2, h.n3, h.n4, h.n5, h.n6, ⟨h.small.1, h.small.2.1, hn⟩, h.tc⟩
  exact (Below.heap_setCell w _ _ A.gf (Ne.symm h.n3)).trans h.f
end Od
end Go.Proofs.Ytkglplngnjgnhaa

/- Slots: give, walked. Conditions: an arena as New lays it, with a place for the number. -/
namespace Go.Proofs.Ytkglplngnjgnhaa
set_option linter.unusedVariables false
set_option linter.unusedSimpArgs false
namespace Od
open Go.RowKit

--<shared>
theorem Try.infoInt : (Try.prog.info? 3).map (fun i => (i.zero, i.size, i.bytes)) = some (some (.int .i64 0), 1, 8) := by kernel_rfl

set_option maxRecDepth 100000 in
/-- The append of one number, where there is room. -/
theorem free_append {w : World} {b : Nat} {A : Ar} (h : ArAt w b A) (hn : A.nf < A.room) (n : Int) (a : Addr) (ha : w.cell? a = some (.int .i64 n)) :
    ∃ w', (Builtin.append_ #[164, 164] 164 #[.slice (some ⟨A.gf, 0, none⟩) A.nf A.room, .slice (some a) 1 1]).run Try.prog w = .ok (.slice (some ⟨A.gf, 0, none⟩) (A.nf + 1) A.room) w' ∧
      ArAt w' b { A with fr := upd A.fr A.nf n } ∧ Only (· = A.gf) w w' := by
  obtain ⟨i0, hi, hz0, hz1, hz2⟩ := info_parts Try.infoInt
  have hrun := run_append_room (P := Try.prog) (w := w) 164 164 3 i0 Try.underlying164 hi A.gf A.nf A.room (freeV A).toArray h.f a 1 1 [.int .i64 n] (by rw [hz1]; rfl)
    (fun j u hj => by
      cases j with
      | zero => simp at hj; subst hj; simpa [Addr.add] using ha
      | succ j => simp at hj) (by simp [Value.oneCell']) (by omega) (by rw [hz1]; simp [freeV]; omega)
  refine ⟨_, hrun, ?_, ?_⟩
  · have e : w.setRow A.gf (((freeV A).toArray.toList.take (A.nf * i0.size) ++ [Value.int .i64 n] ++ (freeV A).toArray.toList.drop (A.nf * i0.size + [Value.int .i64 n].length)).toArray) = w.setCell ⟨A.gf, A.nf, none⟩ (.int .i64 n) := by
      unfold World.setRow World.setCell
      simp only [hz1, Nat.mul_one, List.length_cons, List.length_nil, Nat.zero_add]
      congr 1
      apply Array.ext_getElem?
      intro k
      rw [Array.getElem?_modify, Array.getElem?_modify]
      by_cases hk : A.gf = k
      · subst hk
        simp only [if_pos, h.f, Option.map_some, Option.isSome_none, Bool.false_eq_true, if_false]
        congr 2
        simp only [List.setIfInBounds_toArray, Array.mk.injEq]
        apply List.ext_getElem?
        intro k
        have hl : (freeV A).length = A.room := by simp [freeV]
        rw [List.getElem?_set]
        by_cases hk : A.nf = k
        · subst hk
          rw [if_pos rfl, if_pos (by omega), List.append_assoc, List.getElem?_append_right (by rw [List.length_take]; omega)]
          simp [List.length_take, hl, show min A.nf A.room = A.nf by omega]
        · rw [if_neg hk]
          rcases Nat.lt_or_ge k A.nf with hlt | hge
          · rw [List.append_assoc, List.getElem?_append_left (by rw [List.length_take]; omega), List.getElem?_take_of_lt hlt]
          · rw [List.getElem?_append_right (by simp [hl]; omega), List.getElem?_drop]
            congr 1
            simp [hl, show min A.nf A.room = A.nf by omega]
            omega
      · simp only [if_neg hk]
    rw [e]
    exact h.setf hn n
  · refine ⟨rfl, rfl, rfl, by simp [World.setRow], fun k hk hne => ?_⟩
    unfold World.setRow
    simp only [Array.getElem?_modify]
    rw [if_neg (fun e => hne e.symm)]

--</shared>
set_option maxHeartbeats 1000000 in
set_option maxRecDepth 100000 in
theorem s_give (w : World) (b : Nat) (A : Ar) (n : Int) (h : ArAt w b A) (hn : A.nf < A.room) :
    Calls Try.prog 102 #[.pointer (some ⟨b, 0, none⟩), .int .i64 n] w fun e w' => e = .returned (.tuple #[]) ∧ ArAt w' b (A.give n) ∧ Only (fun i => i = b ∨ i = A.gf) w w' := by
  have h1 : ArAt (w.alloc (.cells #[.int .i64 n] 3)) b A := h.only ((Only.refl (fun _ => False) w).alloc _) id id id id
  obtain ⟨w2, hap, h2, o2⟩ := free_append h1 hn n ⟨w.heap.size, 0, none⟩ (by simp)
  have HAP := Lib.hid hap
  clear hap
  have c2 := h.c2.cell
  have hlt := h.c2.lt
  have d2 := h2.c2.cell
  have e2 := h2.c2.free
  have hs := h.small
  go_enter Try.func102, Try.ntmps102
  go_wp2_with (at_builtin; go_must (refine wpList_append_run rfl _ _ 164 rfl _ _ _ rfl rfl HAP.out ?_))
  clear HAP
  have hz2 : ArAt (w2.setCell ⟨b, 2, none⟩ (.slice (some ⟨A.gf, 0, none⟩) (A.nf + 1) A.room)) b { A with nf := A.nf + 1, fr := upd A.fr A.nf n } := h2.setn (by simp only; omega)
  have o3 : Only (fun i => i = b ∨ i = A.gf) w (w2.setCell ⟨b, 2, none⟩ (.slice (some ⟨A.gf, 0, none⟩) (A.nf + 1) A.room)) := by
    refine Only.setCell ?_ (.inl (.inl rfl)) _
    exact Only.trans (by repeat' (first | (with_reducible exact Only.refl _ _) | (with_reducible assumption) | (refine Only.of_none ?_; with_reducible assumption) | (with_reducible refine Only.drewN ?_ _) | (with_reducible refine Only.drew ?_) | (with_reducible refine Only.alloc ?_ _) | (with_reducible refine Only.setCell ?_ ?_ _) | (with_reducible refine Only.then0 ?_ (by with_reducible assumption)) | (with_reducible refine Only.thenN ?_ (by with_reducible assumption) ?_) | (with_reducible refine Only.trans ?_ (by with_reducible assumption)) | (refine .inl ?_; first | rfl | (simp; done) | (simp [Ar.blk]; done)) | (refine .inr ?_; first | omega | (simp; done) | (simp; omega) | exact Only.size (by with_reducible assumption) | (refine Nat.le_trans (Only.size (by with_reducible assumption)) ?_; simp; done)))) (o2.mono fun _ _ h => .inr h)
  go_loopw [4, 5] (fun i u wr => ∃ (k : Nat) (f : Nat → Int), i = .int .i64 k ∧ k < A.nf + 1 ∧ siftUp (A.nf + 1) f k = siftUp (A.nf + 1) (upd A.fr A.nf n) A.nf ∧ ArAt wr b { A with nf := A.nf + 1, fr := f } ∧ Only (fun i => i = b ∨ i = A.gf) w wr)
    (fun i _ _ => (intOf i).toNat)
  case atStart => exact ⟨A.nf, _, by go_num, by omega, rfl, hz2, o3⟩
  case round =>
    obtain ⟨k, f, rfl, hk, hsift, hA, ho⟩ := hrel
    have c2r := hA.c2.cell
    have hbr := hA.c2.lt
    have hgr := hA.gf_lt
    clear d2 e2 h1 h2 hz2 o2 o3 c2
    by_cases k0 : k = 0
    · subst k0
      have hfin : A.give n = { A with nf := A.nf + 1, fr := f } := by unfold Ar.give; rw [← hsift]; simp [siftUp]
      have HF := Lib.hid hfin
      have HAr := Lib.hid hA
      clear hsift hfin hA
      go_wp2
      go_returns
      exact ⟨rfl, by rw [HF.out]; exact HAr.out, by repeat' (first | (with_reducible exact Only.refl _ _) | (with_reducible assumption) | (refine Only.of_none ?_; with_reducible assumption) | (with_reducible refine Only.drewN ?_ _) | (with_reducible refine Only.drew ?_) | (with_reducible refine Only.alloc ?_ _) | (with_reducible refine Only.setCell ?_ ?_ _) | (with_reducible refine Only.then0 ?_ (by with_reducible assumption)) | (with_reducible refine Only.thenN ?_ (by with_reducible assumption) ?_) | (with_reducible refine Only.trans ?_ (by with_reducible assumption)) | (refine .inl ?_; first | rfl | (simp; done) | (simp [Ar.blk]; done)) | (refine .inr ?_; first | omega | (simp; done) | (simp; omega) | exact Only.size (by with_reducible assumption) | (refine Nat.le_trans (Only.size (by with_reducible assumption)) ?_; simp; done)))⟩
    · obtain ⟨u, hu⟩ : ∃ u, u = (k - 1) / 2 := ⟨_, rfl⟩
      have hup : ((k : Int) - 1) / 2 = ((u : Nat) : Int) := by omega
      have huk : u < k := by omega
      have hk1 : 1 ≤ k := by omega
      have fu := (hA.fc (i := u) (by simp only; omega)).cell
      have fk := (hA.fc (i := k) (by simp only; omega)).cell
      have pu := (hA.fc (i := u) (by simp only; omega)).free
      have pk := (hA.fc (i := k) (by simp only; omega)).free
      simp only at fu fk pu pk c2r hgr
      by_cases hc : f u < f k
      · have hfin : A.give n = { A with nf := A.nf + 1, fr := f } := by unfold Ar.give; rw [← hsift]; simp [siftUp, k0, ← hu, hc]
        have HF := Lib.hid hfin
        have HAr := Lib.hid hA
        clear hsift hfin hA hu k0
        generalize f u = xu at *
        generalize f k = xk at *
        go_wp2
        go_quiet (fail)
        go_wp2
        go_returns
        exact ⟨rfl, by rw [HF.out]; exact HAr.out.drewN _, by repeat' (first | (with_reducible exact Only.refl _ _) | (with_reducible assumption) | (refine Only.of_none ?_; with_reducible assumption) | (with_reducible refine Only.drewN ?_ _) | (with_reducible refine Only.drew ?_) | (with_reducible refine Only.alloc ?_ _) | (with_reducible refine Only.setCell ?_ ?_ _) | (with_reducible refine Only.then0 ?_ (by with_reducible assumption)) | (with_reducible refine Only.thenN ?_ (by with_reducible assumption) ?_) | (with_reducible refine Only.trans ?_ (by with_reducible assumption)) | (refine .inl ?_; first | rfl | (simp; done) | (simp [Ar.blk]; done)) | (refine .inr ?_; first | omega | (simp; done) | (simp; omega) | exact Only.size (by with_reducible assumption) | (refine Nat.le_trans (Only.size (by with_reducible assumption)) ?_; simp; done)))⟩
      · have hnx : siftUp (A.nf + 1) f k = siftUp (A.nf + 1) (swp f u k) u := by
          rw [show siftUp (A.nf + 1) f k = siftUp A.nf (swp f u k) u by simp [siftUp, k0, ← hu, hc]]
          exact siftUp_more _ _ _ _ (by omega) (by omega)
        have hc' : f k ≤ f u := by omega
        have HSW := fun W (hW : ArAt W b { A with nf := A.nf + 1, fr := f }) => Lib.hid ((hW.setf (i := u) (by simp only; omega) (f k)).setf (i := k) (by simp only; omega) (f u))
        have HN := Lib.hid (hnx.symm.trans hsift)
        have HAr := Lib.hid hA
        have HSI := Lib.hid hup
        clear hsift hnx hA hu k0 hc
        generalize hxu : f u = xu at *
        generalize hxk : f k = xk at *
        have HXU := Lib.hid hxu
        have HXK := Lib.hid hxk
        clear hxu hxk
        go_wp2
        go_quiet (fail)
        go_wp2
        go_region
        go_wp2
        go_roundw
        case rel =>
          refine ⟨u, swp f u k, rfl, by omega, HN.out, ?_, by repeat' (first | (with_reducible exact Only.refl _ _) | (with_reducible assumption) | (refine Only.of_none ?_; with_reducible assumption) | (with_reducible refine Only.drewN ?_ _) | (with_reducible refine Only.drew ?_) | (with_reducible refine Only.alloc ?_ _) | (with_reducible refine Only.setCell ?_ ?_ _) | (with_reducible refine Only.then0 ?_ (by with_reducible assumption)) | (with_reducible refine Only.thenN ?_ (by with_reducible assumption) ?_) | (with_reducible refine Only.trans ?_ (by with_reducible assumption)) | (refine .inl ?_; first | rfl | (simp; done) | (simp [Ar.blk]; done)) | (refine .inr ?_; first | omega | (simp; done) | (simp; omega) | exact Only.size (by with_reducible assumption) | (refine Nat.le_trans (Only.size (by with_reducible assumption)) ?_; simp; done)))⟩
          have := (HSW _ (HAr.out.drewN (nq + 1))).out
          rw [← HXU.out, ← HXK.out] at this ⊢
          exact this
        case measure => simp [intOf]; omega
end Od
end Go.Proofs.Ytkglplngnjgnhaa

/- Slots: least, walked. Conditions: an arena as New lays it, with a free number. -/
namespace Go.Proofs.Ytkglplngnjgnhaa
set_option linter.unusedVariables false
set_option linter.unusedSimpArgs false
namespace Od
open Go.RowKit

set_option maxHeartbeats 4000000 in
set_option maxRecDepth 100000 in
theorem s_least (w : World) (b : Nat) (A : Ar) (h : ArAt w b A) (hn : 0 < A.nf) :
    Calls Try.prog 100 #[.pointer (some ⟨b, 0, none⟩)] w fun e w' => e = .returned (.int .i64 (A.fr 0)) ∧ ArAt w' b A.least ∧ Only (fun i => i = b ∨ i = A.gf) w w' := by
  have hs := h.small
  obtain ⟨e, he⟩ : ∃ e, A.nf = e + 1 := ⟨A.nf - 1, by omega⟩
  have hr1 : 0 < A.room := by omega
  have c2 := h.c2.cell
  have e2 := h.c2.free
  have hlt := h.c2.lt
  have hgf := h.gf_lt
  have f0 := (h.fc (i := 0) (by omega)).cell
  have p0 := (h.fc (i := 0) (by omega)).free
  have fe := (h.fc (i := e) (by omega)).cell
  rw [he] at c2
  have H1 := Lib.hid (fun W (hW : ArAt W b A) => (hW.setf (i := 0) (by omega) (A.fr e)).setn (n := e) (by simp only; omega))
  have hl : A.least = { A with nf := e, fr := siftDown (e + 1) (upd A.fr 0 (A.fr e)) 0 e } := by unfold Ar.least; rw [he]; rfl
  have HL := Lib.hid hl
  have HAr := Lib.hid h
  have he16 : e < 65536 := by omega
  have her : e < A.room := by omega
  have HE := Lib.hid he
  obtain ⟨F0, hF0⟩ : ∃ F, F = upd A.fr 0 (A.fr e) := ⟨_, rfl⟩
  rw [← hF0] at H1 HL
  clear h hl he hn hF0
  generalize hx0 : A.fr 0 = x0 at *
  generalize hxe : A.fr e = xe at *
  clear hx0 hxe
  simp only at H1
  go_enter Try.func100, Try.ntmps100
  go_wp2
  go_quiet (fail)
  go_wp2
  go_region
  go_wp2
  go_loopw [5, 6] (fun i u wr => ∃ (k : Nat) (f : Nat → Int), i = .int .i64 k ∧ k ≤ e ∧ siftDown (e + 1) f k e = siftDown (e + 1) F0 0 e ∧ ArAt wr b { A with nf := e, fr := f } ∧ Only (fun i => i = b ∨ i = A.gf) w wr)
    (fun i _ _ => e - (intOf i).toNat)
  case atStart => exact ⟨0, F0, rfl, by omega, rfl, H1.out _ (HAr.out.drewN _), by repeat' (first | (with_reducible exact Only.refl _ _) | (with_reducible assumption) | (refine Only.of_none ?_; with_reducible assumption) | (with_reducible refine Only.drewN ?_ _) | (with_reducible refine Only.drew ?_) | (with_reducible refine Only.alloc ?_ _) | (with_reducible refine Only.setCell ?_ ?_ _) | (with_reducible refine Only.then0 ?_ (by with_reducible assumption)) | (with_reducible refine Only.thenN ?_ (by with_reducible assumption) ?_) | (with_reducible refine Only.trans ?_ (by with_reducible assumption)) | (refine .inl ?_; first | rfl | (simp; done) | (simp [Ar.blk]; done)) | (refine .inr ?_; first | omega | (simp; done) | (simp; omega) | exact Only.size (by with_reducible assumption) | (refine Nat.le_trans (Only.size (by with_reducible assumption)) ?_; simp; done)))⟩
  case round =>
    obtain ⟨k, f, rfl, hk, hsift, hA, ho⟩ := hrel
    have c2r := hA.c2.cell
    have hbr := hA.c2.lt
    have hgr := hA.gf_lt
    clear c2 e2 f0 p0 fe H1 HAr
    simp only at c2r hgr
    have hw2 : IntKind.i64.wrap (2 * (k : Int) + 1 + 1) = 2 * (k : Int) + 2 := by rw [IntKind.wrap_i64]; omega
    by_cases c1 : 2 * k + 2 < e
    · have f1 := (hA.fc (i := 2 * k + 1) (by simp only; omega)).cell
      have f2 := (hA.fc (i := 2 * k + 2) (by simp only; omega)).cell
      have fk := (hA.fc (i := k) (by simp only; omega)).cell
      have p1 := (hA.fc (i := 2 * k + 1) (by simp only; omega)).free
      have p2 := (hA.fc (i := 2 * k + 2) (by simp only; omega)).free
      have pk := (hA.fc (i := k) (by simp only; omega)).free
      simp only at f1 f2 fk p1 p2 pk
      have i1 : (2 * (k : Int) + 2).toNat = 2 * k + 2 := by omega
      have i2 : (2 * (k : Int) + 1).toNat = 2 * k + 1 := by omega
      have i3 : 2 * (k : Int) + 2 < (e : Int) := by omega
      have i6 : (k : Int) < (e : Int) := by omega
      have i7 : decide ((e : Int) ≤ 2 * (k : Int) + 2) = false := by simp; omega
      have i8 : decide ((e : Int) ≤ 2 * (k : Int) + 1) = false := by simp; omega
      by_cases t1 : f (2 * k + 2) < f (2 * k + 1)
      · have hd : down f k e = 2 * k + 2 := by simp [down, c1, t1]
        by_cases t2 : f k < f (2 * k + 2)
        · have hstop : e ≤ 2 * k + 2 ∨ f k < f (2 * k + 2) := by first | exact .inr ‹_› | exact .inl (by omega)
          have HF := Lib.hid (show A.least = { A with nf := e, fr := f } by rw [HL.out, ← hsift]; simp only [siftDown, hd]; rw [if_pos hstop])
          have HAr := Lib.hid hA
          clear hsift hA HL hd hstop
          as_aux_lemma =>
            go_wp2
            go_quiet (fail)
            go_wp2
            go_quiet (fail)
            go_wp2
            go_returns
            exact ⟨rfl, by rw [HF.out]; (repeat (first | (with_reducible refine ArAt.drew ?_) | (with_reducible refine ArAt.drewN ?_ _) | (with_reducible refine ArAt.alloc ?_ _))); exact HAr.out, by repeat' (first | (with_reducible exact Only.refl _ _) | (with_reducible assumption) | (refine Only.of_none ?_; with_reducible assumption) | (with_reducible refine Only.drewN ?_ _) | (with_reducible refine Only.drew ?_) | (with_reducible refine Only.alloc ?_ _) | (with_reducible refine Only.setCell ?_ ?_ _) | (with_reducible refine Only.then0 ?_ (by with_reducible assumption)) | (with_reducible refine Only.thenN ?_ (by with_reducible assumption) ?_) | (with_reducible refine Only.trans ?_ (by with_reducible assumption)) | (refine .inl ?_; first | rfl | (simp; done) | (simp [Ar.blk]; done)) | (refine .inr ?_; first | omega | (simp; done) | (simp; omega) | exact Only.size (by with_reducible assumption) | (refine Nat.le_trans (Only.size (by with_reducible assumption)) ?_; simp; done)))⟩
        · have hgo : ¬ (e ≤ 2 * k + 2 ∨ f k < f (2 * k + 2)) := by omega
          have hnx : siftDown (e + 1) f k e = siftDown (e + 1) (swp f k (2 * k + 2)) (2 * k + 2) e := by
            rw [show siftDown (e + 1) f k e = siftDown e (swp f k (2 * k + 2)) (2 * k + 2) e by simp only [siftDown, hd]; rw [if_neg hgo]]
            exact siftDown_more _ _ _ _ _ (by omega) (by omega) (by omega) (by omega)
          have HSW := fun W (hW : ArAt W b { A with nf := e, fr := f }) => Lib.hid ((hW.setf (i := k) (by simp only; omega) (f (2 * k + 2))).setf (i := 2 * k + 2) (by simp only; omega) (f k))
          have HN := Lib.hid (hnx.symm.trans hsift)
          have HAr := Lib.hid hA
          clear hsift hnx hA HL hd hgo
          as_aux_lemma =>
            go_wp2
            go_quiet (fail)
            go_wp2
            go_quiet (fail)
            go_wp2
            go_region
            go_wp2
            go_roundw
            case rel =>
              refine ⟨2 * k + 2, swp f k (2 * k + 2), by go_num, by omega, HN.out, ?_, by repeat' (first | (with_reducible exact Only.refl _ _) | (with_reducible assumption) | (refine Only.of_none ?_; with_reducible assumption) | (with_reducible refine Only.drewN ?_ _) | (with_reducible refine Only.drew ?_) | (with_reducible refine Only.alloc ?_ _) | (with_reducible refine Only.setCell ?_ ?_ _) | (with_reducible refine Only.then0 ?_ (by with_reducible assumption)) | (with_reducible refine Only.thenN ?_ (by with_reducible assumption) ?_) | (with_reducible refine Only.trans ?_ (by with_reducible assumption)) | (refine .inl ?_; first | rfl | (simp; done) | (simp [Ar.blk]; done)) | (refine .inr ?_; first | omega | (simp; done) | (simp; omega) | exact Only.size (by with_reducible assumption) | (refine Nat.le_trans (Only.size (by with_reducible assumption)) ?_; simp; done)))⟩
              exact (HSW _ (by (repeat (first | (with_reducible refine ArAt.drew ?_) | (with_reducible refine ArAt.drewN ?_ _) | (with_reducible refine ArAt.alloc ?_ _))); exact HAr.out)).out
            case measure => simp [intOf]; omega
      · have hd : down f k e = 2 * k + 1 := by simp [down, t1]
        have t1' : f (2 * k + 1) ≤ f (2 * k + 2) := by omega
        by_cases t2 : f k < f (2 * k + 1)
        · have hstop : e ≤ 2 * k + 1 ∨ f k < f (2 * k + 1) := by first | exact .inr ‹_› | exact .inl (by omega)
          have HF := Lib.hid (show A.least = { A with nf := e, fr := f } by rw [HL.out, ← hsift]; simp only [siftDown, hd]; rw [if_pos hstop])
          have HAr := Lib.hid hA
          clear hsift hA HL hd hstop
          as_aux_lemma =>
            go_wp2
            go_quiet (fail)
            go_wp2
            go_quiet (fail)
            go_wp2
            go_returns
            exact ⟨rfl, by rw [HF.out]; (repeat (first | (with_reducible refine ArAt.drew ?_) | (with_reducible refine ArAt.drewN ?_ _) | (with_reducible refine ArAt.alloc ?_ _))); exact HAr.out, by repeat' (first | (with_reducible exact Only.refl _ _) | (with_reducible assumption) | (refine Only.of_none ?_; with_reducible assumption) | (with_reducible refine Only.drewN ?_ _) | (with_reducible refine Only.drew ?_) | (with_reducible refine Only.alloc ?_ _) | (with_reducible refine Only.setCell ?_ ?_ _) | (with_reducible refine Only.then0 ?_ (by with_reducible assumption)) | (with_reducible refine Only.thenN ?_ (by with_reducible assumption) ?_) | (with_reducible refine Only.trans ?_ (by with_reducible assumption)) | (refine .inl ?_; first | rfl | (simp; done) | (simp [Ar.blk]; done)) | (refine .inr ?_; first | omega | (simp; done) | (simp; omega) | exact Only.size (by with_reducible assumption) | (refine Nat.le_trans (Only.size (by with_reducible assumption)) ?_; simp; done)))⟩
        · have hgo : ¬ (e ≤ 2 * k + 1 ∨ f k < f (2 * k + 1)) := by omega
          have hnx : siftDown (e + 1) f k e = siftDown (e + 1) (swp f k (2 * k + 1)) (2 * k + 1) e := by
            rw [show siftDown (e + 1) f k e = siftDown e (swp f k (2 * k + 1)) (2 * k + 1) e by simp only [siftDown, hd]; rw [if_neg hgo]]
            exact siftDown_more _ _ _ _ _ (by omega) (by omega) (by omega) (by omega)
          have HSW := fun W (hW : ArAt W b { A with nf := e, fr := f }) => Lib.hid ((hW.setf (i := k) (by simp only; omega) (f (2 * k + 1))).setf (i := 2 * k + 1) (by simp only; omega) (f k))
          have HN := Lib.hid (hnx.symm.trans hsift)
          have HAr := Lib.hid hA
          clear hsift hnx hA HL hd hgo
          as_aux_lemma =>
            go_wp2
            go_quiet (fail)
            go_wp2
            go_quiet (fail)
            go_wp2
            go_region
            go_wp2
            go_roundw
            case rel =>
              refine ⟨2 * k + 1, swp f k (2 * k + 1), by go_num, by omega, HN.out, ?_, by repeat' (first | (with_reducible exact Only.refl _ _) | (with_reducible assumption) | (refine Only.of_none ?_; with_reducible assumption) | (with_reducible refine Only.drewN ?_ _) | (with_reducible refine Only.drew ?_) | (with_reducible refine Only.alloc ?_ _) | (with_reducible refine Only.setCell ?_ ?_ _) | (with_reducible refine Only.then0 ?_ (by with_reducible assumption)) | (with_reducible refine Only.thenN ?_ (by with_reducible assumption) ?_) | (with_reducible refine Only.trans ?_ (by with_reducible assumption)) | (refine .inl ?_; first | rfl | (simp; done) | (simp [Ar.blk]; done)) | (refine .inr ?_; first | omega | (simp; done) | (simp; omega) | exact Only.size (by with_reducible assumption) | (refine Nat.le_trans (Only.size (by with_reducible assumption)) ?_; simp; done)))⟩
              exact (HSW _ (by (repeat (first | (with_reducible refine ArAt.drew ?_) | (with_reducible refine ArAt.drewN ?_ _) | (with_reducible refine ArAt.alloc ?_ _))); exact HAr.out)).out
            case measure => simp [intOf]; omega
    · have hd : down f k e = 2 * k + 1 := by simp [down, c1]
      have i2 : (2 * (k : Int) + 1).toNat = 2 * k + 1 := by omega
      have i4 : decide (2 * (k : Int) + 2 < (e : Int)) = false := by simp; omega
      by_cases c2 : 2 * k + 1 < e
      · have f1 := (hA.fc (i := 2 * k + 1) (by simp only; omega)).cell
        have fk := (hA.fc (i := k) (by simp only; omega)).cell
        have p1 := (hA.fc (i := 2 * k + 1) (by simp only; omega)).free
        have pk := (hA.fc (i := k) (by simp only; omega)).free
        simp only at f1 fk p1 pk
        have i3 : 2 * (k : Int) + 1 < (e : Int) := by omega
        have i6 : (k : Int) < (e : Int) := by omega
        have i8 : decide ((e : Int) ≤ 2 * (k : Int) + 1) = false := by simp; omega
        by_cases t2 : f k < f (2 * k + 1)
        · have hstop : e ≤ 2 * k + 1 ∨ f k < f (2 * k + 1) := by first | exact .inr ‹_› | exact .inl (by omega)
          have HF := Lib.hid (show A.least = { A with nf := e, fr := f } by rw [HL.out, ← hsift]; simp only [siftDown, hd]; rw [if_pos hstop])
          have HAr := Lib.hid hA
          clear hsift hA HL hd hstop
          as_aux_lemma =>
            go_wp2
            go_quiet (fail)
            go_wp2
            go_quiet (fail)
            go_wp2
            go_returns
            exact ⟨rfl, by rw [HF.out]; (repeat (first | (with_reducible refine ArAt.drew ?_) | (with_reducible refine ArAt.drewN ?_ _) | (with_reducible refine ArAt.alloc ?_ _))); exact HAr.out, by repeat' (first | (with_reducible exact Only.refl _ _) | (with_reducible assumption) | (refine Only.of_none ?_; with_reducible assumption) | (with_reducible refine Only.drewN ?_ _) | (with_reducible refine Only.drew ?_) | (with_reducible refine Only.alloc ?_ _) | (with_reducible refine Only.setCell ?_ ?_ _) | (with_reducible refine Only.then0 ?_ (by with_reducible assumption)) | (with_reducible refine Only.thenN ?_ (by with_reducible assumption) ?_) | (with_reducible refine Only.trans ?_ (by with_reducible assumption)) | (refine .inl ?_; first | rfl | (simp; done) | (simp [Ar.blk]; done)) | (refine .inr ?_; first | omega | (simp; done) | (simp; omega) | exact Only.size (by with_reducible assumption) | (refine Nat.le_trans (Only.size (by with_reducible assumption)) ?_; simp; done)))⟩
        · have hgo : ¬ (e ≤ 2 * k + 1 ∨ f k < f (2 * k + 1)) := by omega
          have hnx : siftDown (e + 1) f k e = siftDown (e + 1) (swp f k (2 * k + 1)) (2 * k + 1) e := by
            rw [show siftDown (e + 1) f k e = siftDown e (swp f k (2 * k + 1)) (2 * k + 1) e by simp only [siftDown, hd]; rw [if_neg hgo]]
            exact siftDown_more _ _ _ _ _ (by omega) (by omega) (by omega) (by omega)
          have HSW := fun W (hW : ArAt W b { A with nf := e, fr := f }) => Lib.hid ((hW.setf (i := k) (by simp only; omega) (f (2 * k + 1))).setf (i := 2 * k + 1) (by simp only; omega) (f k))
          have HN := Lib.hid (hnx.symm.trans hsift)
          have HAr := Lib.hid hA
          clear hsift hnx hA HL hd hgo
          as_aux_lemma =>
            go_wp2
            go_quiet (fail)
            go_wp2
            go_quiet (fail)
            go_wp2
            go_region
            go_wp2
            go_roundw
            case rel =>
              refine ⟨2 * k + 1, swp f k (2 * k + 1), by go_num, by omega, HN.out, ?_, by repeat' (first | (with_reducible exact Only.refl _ _) | (with_reducible assumption) | (refine Only.of_none ?_; with_reducible assumption) | (with_reducible refine Only.drewN ?_ _) | (with_reducible refine Only.drew ?_) | (with_reducible refine Only.alloc ?_ _) | (with_reducible refine Only.setCell ?_ ?_ _) | (with_reducible refine Only.then0 ?_ (by with_reducible assumption)) | (with_reducible refine Only.thenN ?_ (by with_reducible assumption) ?_) | (with_reducible refine Only.trans ?_ (by with_reducible assumption)) | (refine .inl ?_; first | rfl | (simp; done) | (simp [Ar.blk]; done)) | (refine .inr ?_; first | omega | (simp; done) | (simp; omega) | exact Only.size (by with_reducible assumption) | (refine Nat.le_trans (Only.size (by with_reducible assumption)) ?_; simp; done)))⟩
              exact (HSW _ (by (repeat (first | (with_reducible refine ArAt.drew ?_) | (with_reducible refine ArAt.drewN ?_ _) | (with_reducible refine ArAt.alloc ?_ _))); exact HAr.out)).out
            case measure => simp [intOf]; omega
      · have i5 : decide ((e : Int) ≤ 2 * (k : Int) + 1) = true := by simp; omega
        have hstop : e ≤ 2 * k + 1 ∨ f k < f (2 * k + 1) := by first | exact .inr ‹_› | exact .inl (by omega)
        have HF := Lib.hid (show A.least = { A with nf := e, fr := f } by rw [HL.out, ← hsift]; simp only [siftDown, hd]; rw [if_pos hstop])
        have HAr := Lib.hid hA
        clear hsift hA HL hd hstop
        as_aux_lemma =>
          go_wp2
          go_quiet (fail)
          go_wp2
          go_quiet (fail)
          go_wp2
          go_returns
          exact ⟨rfl, by rw [HF.out]; (repeat (first | (with_reducible refine ArAt.drew ?_) | (with_reducible refine ArAt.drewN ?_ _) | (with_reducible refine ArAt.alloc ?_ _))); exact HAr.out, by repeat' (first | (with_reducible exact Only.refl _ _) | (with_reducible assumption) | (refine Only.of_none ?_; with_reducible assumption) | (with_reducible refine Only.drewN ?_ _) | (with_reducible refine Only.drew ?_) | (with_reducible refine Only.alloc ?_ _) | (with_reducible refine Only.setCell ?_ ?_ _) | (with_reducible refine Only.then0 ?_ (by with_reducible assumption)) | (with_reducible refine Only.thenN ?_ (by with_reducible assumption) ?_) | (with_reducible refine Only.trans ?_ (by with_reducible assumption)) | (refine .inl ?_; first | rfl | (simp; done) | (simp [Ar.blk]; done)) | (refine .inr ?_; first | omega | (simp; done) | (simp; omega) | exact Only.size (by with_reducible assumption) | (refine Nat.le_trans (Only.size (by with_reducible assumption)) ?_; simp; done)))⟩
end Od
end Go.Proofs.Ytkglplngnjgnhaa

/- Slots: what a store into a link or a row does to an arena. No condition. -/
namespace Go.Proofs.Ytkglplngnjgnhaa
set_option linter.unusedVariables false
set_option linter.unusedSimpArgs false
namespace Od
open Go.RowKit

/-- A thing of five cells is written. -/
def put5 (w : World) (g o : Nat) (a0 a1 a2 a3 a4 : Value) : World := ((((w.setCell ⟨g, o, none⟩ a0).setCell ⟨g, o + 1, none⟩ a1).setCell ⟨g, o + 2, none⟩ a2).setCell ⟨g, o + 3, none⟩ a3).setCell ⟨g, o + 4, none⟩ a4
theorem ArAt.set_th {w : World} {b : Nat} {A : Ar} (h : ArAt w b A) {i : Nat} (hi : i < A.room) (a0 a1 a2 a3 a4 : Value) : ArAt (put5 w A.gl (i * 8) a0 a1 a2 a3 a4) b { A with th := upd A.th i (.agg #[a0, a1, a2, a3, a4]) } := by
  have farb : ∀ {g o : Nat} {v : Value}, Cell w g o v → A.gl ≠ g → Cell (put5 w A.gl (i * 8) a0 a1 a2 a3 a4) g o v := fun hc hg => ((((hc.far (blk_ne hg) _).far (blk_ne hg) _).far (blk_ne hg) _).far (blk_ne hg) _).far (blk_ne hg) _
  have faro : ∀ {o : Nat} {v : Value}, Cell w A.gl o v → (o < i * 8 ∨ i * 8 + 5 ≤ o) → Cell (put5 w A.gl (i * 8) a0 a1 a2 a3 a4) A.gl o v := fun hc hg => ((((hc.far (off_ne (by omega)) _).far (off_ne (by omega)) _).far (off_ne (by omega)) _).far (off_ne (by omega)) _).far (off_ne (by omega)) _
  have hs : (A.th i).cells.size = 5 := h.tc i hi
  have old : ∀ c, c < 5 → ∃ u, Cell w A.gl (i * 8 + c) u := fun c hc => ⟨_, h.l0 i hi c _ (Array.getElem?_eq_getElem (by rw [hs]; exact hc))⟩
  refine ⟨farb h.c0 (Ne.symm h.n1), farb h.c1 (Ne.symm h.n1), farb h.c2 (Ne.symm h.n1), fun k hk c u hu => ?_, fun k hk => faro (h.l1 k hk) (by omega), fun k hk => faro (h.l2 k hk) (by omega), fun k hk => faro (h.l3 k hk) (by omega), fun k hk => farb (h.r0 k hk) h.n4, fun k hk => farb (h.r1 k hk) h.n4, fun k hk => farb (h.r2 k hk) h.n4,
    ?_, by simpa [put5, World.setCell] using h.lr, h.n1, h.n2, h.n3, h.n4, h.n5, h.n6, h.small, fun k hk => ?_⟩
  · by_cases e : k = i
    · subst e
      simp only [upd_same, Value.cells] at hu
      obtain ⟨u0, o0⟩ := old 0 (by decide)
      obtain ⟨u1, o1⟩ := old 1 (by decide)
      obtain ⟨u2, o2⟩ := old 2 (by decide)
      obtain ⟨u3, o3⟩ := old 3 (by decide)
      obtain ⟨u4, o4⟩ := old 4 (by decide)
      match c, hu with
      | 0, hu => cases hu; exact ((((o0.set _).far (off_ne (by omega)) _).far (off_ne (by omega)) _).far (off_ne (by omega)) _).far (off_ne (by omega)) _
      | 1, hu => cases hu; exact ((((o1.far (off_ne (by omega)) _).set _).far (off_ne (by omega)) _).far (off_ne (by omega)) _).far (off_ne (by omega)) _
      | 2, hu => cases hu; exact ((((o2.far (off_ne (by omega)) _).far (off_ne (by omega)) _).set _).far (off_ne (by omega)) _).far (off_ne (by omega)) _
      | 3, hu => cases hu; exact ((((o3.far (off_ne (by omega)) _).far (off_ne (by omega)) _).far (off_ne (by omega)) _).set _).far (off_ne (by omega)) _
      | 4, hu => cases hu; exact ((((o4.far (off_ne (by omega)) _).far (off_ne (by omega)) _).far (off_ne (by omega)) _).far (off_ne (by omega)) _).set _
      | c + 5, hu => simp at hu
    · simp only [upd_other e] at hu
      have hc : c < 5 := by rw [← h.tc k hk]; exact (Array.getElem?_eq_some_iff.1 hu).1
      exact faro (h.l0 k hk c u hu) (by omega)
  · unfold put5
    rw [Below.heap_setCell _ _ _ A.gf (Ne.symm h.n5), Below.heap_setCell _ _ _ A.gf (Ne.symm h.n5), Below.heap_setCell _ _ _ A.gf (Ne.symm h.n5), Below.heap_setCell _ _ _ A.gf (Ne.symm h.n5), Below.heap_setCell _ _ _ A.gf (Ne.symm h.n5)]
    exact h.f
  · by_cases e : k = i
    · subst e; simp only [upd_same]; rfl
    · simp only [upd_other e]; exact h.tc k hk

theorem ArAt.set_ro {w : World} {b : Nat} {A : Ar} (h : ArAt w b A) {i : Nat} (hi : i < A.room) (x : Int) : ArAt (w.setCell ⟨A.gl, i * 8 + 5, none⟩ (.int .i64 x)) b { A with ro := upd A.ro i x } := by
  have farb : ∀ {g o : Nat} {v : Value}, Cell w g o v → A.gl ≠ g → Cell (w.setCell ⟨A.gl, i * 8 + 5, none⟩ (.int .i64 x)) g o v := fun hc hg => hc.far (blk_ne hg) _
  have faro : ∀ {o : Nat} {v : Value}, Cell w A.gl o v → i * 8 + 5 ≠ o → Cell (w.setCell ⟨A.gl, i * 8 + 5, none⟩ (.int .i64 x)) A.gl o v := fun hc hg => hc.far (off_ne hg) _
  refine ⟨farb h.c0 (Ne.symm h.n1), farb h.c1 (Ne.symm h.n1), farb h.c2 (Ne.symm h.n1), fun k hk c u hu => faro (h.l0 k hk c u hu) (by have hc : c < 5 := by { rw [← h.tc k hk]; exact (Array.getElem?_eq_some_iff.1 hu).1 }; omega), fun k hk => ?_, fun k hk => faro (h.l2 k hk) (by omega), fun k hk => faro (h.l3 k hk) (by omega), fun k hk => farb (h.r0 k hk) h.n4, fun k hk => farb (h.r1 k hk) h.n4, fun k hk => farb (h.r2 k hk) h.n4,
    (Below.heap_setCell w _ _ A.gf (Ne.symm h.n5)).trans h.f, by simpa [World.setCell] using h.lr, h.n1, h.n2, h.n3, h.n4, h.n5, h.n6, h.small, h.tc⟩
  by_cases e : k = i
  · subst e; simp only [upd_same]; exact (h.l1 k hk).set _
  · simp only [upd_other e]; exact faro (h.l1 k hk) (by omega)

theorem ArAt.set_ah {w : World} {b : Nat} {A : Ar} (h : ArAt w b A) {i : Nat} (hi : i < A.room) (x : Int) : ArAt (w.setCell ⟨A.gl, i * 8 + 6, none⟩ (.int .i64 x)) b { A with ah := upd A.ah i x } := by
  have farb : ∀ {g o : Nat} {v : Value}, Cell w g o v → A.gl ≠ g → Cell (w.setCell ⟨A.gl, i * 8 + 6, none⟩ (.int .i64 x)) g o v := fun hc hg => hc.far (blk_ne hg) _
  have faro : ∀ {o : Nat} {v : Value}, Cell w A.gl o v → i * 8 + 6 ≠ o → Cell (w.setCell ⟨A.gl, i * 8 + 6, none⟩ (.int .i64 x)) A.gl o v := fun hc hg => hc.far (off_ne hg) _
  refine ⟨farb h.c0 (Ne.symm h.n1), farb h.c1 (Ne.symm h.n1), farb h.c2 (Ne.symm h.n1), fun k hk c u hu => faro (h.l0 k hk c u hu) (by have hc : c < 5 := by { rw [← h.tc k hk]; exact (Array.getElem?_eq_some_iff.1 hu).1 }; omega), fun k hk => faro (h.l1 k hk) (by omega), fun k hk => ?_, fun k hk => faro (h.l3 k hk) (by omega), fun k hk => farb (h.r0 k hk) h.n4, fun k hk => farb (h.r1 k hk) h.n4, fun k hk => farb (h.r2 k hk) h.n4,
    (Below.heap_setCell w _ _ A.gf (Ne.symm h.n5)).trans h.f, by simpa [World.setCell] using h.lr, h.n1, h.n2, h.n3, h.n4, h.n5, h.n6, h.small, h.tc⟩
  by_cases e : k = i
  · subst e; simp only [upd_same]; exact (h.l2 k hk).set _
  · simp only [upd_other e]; exact faro (h.l2 k hk) (by omega)

theorem ArAt.set_fa {w : World} {b : Nat} {A : Ar} (h : ArAt w b A) {i : Nat} (hi : i < A.room) (x : Int) : ArAt (w.setCell ⟨A.gl, i * 8 + 7, none⟩ (.int .i64 x)) b { A with fa := upd A.fa i x } := by
  have farb : ∀ {g o : Nat} {v : Value}, Cell w g o v → A.gl ≠ g → Cell (w.setCell ⟨A.gl, i * 8 + 7, none⟩ (.int .i64 x)) g o v := fun hc hg => hc.far (blk_ne hg) _
  have faro : ∀ {o : Nat} {v : Value}, Cell w A.gl o v → i * 8 + 7 ≠ o → Cell (w.setCell ⟨A.gl, i * 8 + 7, none⟩ (.int .i64 x)) A.gl o v := fun hc hg => hc.far (off_ne hg) _
  refine ⟨farb h.c0 (Ne.symm h.n1), farb h.c1 (Ne.symm h.n1), farb h.c2 (Ne.symm h.n1), fun k hk c u hu => faro (h.l0 k hk c u hu) (by have hc : c < 5 := by { rw [← h.tc k hk]; exact (Array.getElem?_eq_some_iff.1 hu).1 }; omega), fun k hk => faro (h.l1 k hk) (by omega), fun k hk => faro (h.l2 k hk) (by omega), fun k hk => ?_, fun k hk => farb (h.r0 k hk) h.n4, fun k hk => farb (h.r1 k hk) h.n4, fun k hk => farb (h.r2 k hk) h.n4,
    (Below.heap_setCell w _ _ A.gf (Ne.symm h.n5)).trans h.f, by simpa [World.setCell] using h.lr, h.n1, h.n2, h.n3, h.n4, h.n5, h.n6, h.small, h.tc⟩
  by_cases e : k = i
  · subst e; simp only [upd_same]; exact (h.l3 k hk).set _
  · simp only [upd_other e]; exact faro (h.l3 k hk) (by omega)

theorem ArAt.set_rf {w : World} {b : Nat} {A : Ar} (h : ArAt w b A) {i : Nat} (hi : i < A.nr) (x : Int) : ArAt (w.setCell ⟨A.gr, i * 3, none⟩ (.int .i64 x)) b { A with rf := upd A.rf i x } := by
  have farb : ∀ {g o : Nat} {v : Value}, Cell w g o v → A.gr ≠ g → Cell (w.setCell ⟨A.gr, i * 3, none⟩ (.int .i64 x)) g o v := fun hc hg => hc.far (blk_ne hg) _
  have faro : ∀ {o : Nat} {v : Value}, Cell w A.gr o v → i * 3 ≠ o → Cell (w.setCell ⟨A.gr, i * 3, none⟩ (.int .i64 x)) A.gr o v := fun hc hg => hc.far (off_ne hg) _
  refine ⟨farb h.c0 (Ne.symm h.n2), farb h.c1 (Ne.symm h.n2), farb h.c2 (Ne.symm h.n2), fun k hk c u hu => farb (h.l0 k hk c u hu) (Ne.symm h.n4), fun k hk => farb (h.l1 k hk) (Ne.symm h.n4), fun k hk => farb (h.l2 k hk) (Ne.symm h.n4), fun k hk => farb (h.l3 k hk) (Ne.symm h.n4), fun k hk => ?_, fun k hk => faro (h.r1 k hk) (by omega), fun k hk => faro (h.r2 k hk) (by omega),
    (Below.heap_setCell w _ _ A.gf (Ne.symm h.n6)).trans h.f, by simpa [World.setCell] using h.lr, h.n1, h.n2, h.n3, h.n4, h.n5, h.n6, h.small, h.tc⟩
  by_cases e : k = i
  · subst e; simp only [upd_same]; exact (h.r0 k hk).set _
  · simp only [upd_other e]; exact faro (h.r0 k hk) (by omega)

theorem ArAt.set_rl {w : World} {b : Nat} {A : Ar} (h : ArAt w b A) {i : Nat} (hi : i < A.nr) (x : Int) : ArAt (w.setCell ⟨A.gr, i * 3 + 1, none⟩ (.int .i64 x)) b { A with rl := upd A.rl i x } := by
  have farb : ∀ {g o : Nat} {v : Value}, Cell w g o v → A.gr ≠ g → Cell (w.setCell ⟨A.gr, i * 3 + 1, none⟩ (.int .i64 x)) g o v := fun hc hg => hc.far (blk_ne hg) _
  have faro : ∀ {o : Nat} {v : Value}, Cell w A.gr o v → i * 3 + 1 ≠ o → Cell (w.setCell ⟨A.gr, i * 3 + 1, none⟩ (.int .i64 x)) A.gr o v := fun hc hg => hc.far (off_ne hg) _
  refine ⟨farb h.c0 (Ne.symm h.n2), farb h.c1 (Ne.symm h.n2), farb h.c2 (Ne.symm h.n2), fun k hk c u hu => farb (h.l0 k hk c u hu) (Ne.symm h.n4), fun k hk => farb (h.l1 k hk) (Ne.symm h.n4), fun k hk => farb (h.l2 k hk) (Ne.symm h.n4), fun k hk => farb (h.l3 k hk) (Ne.symm h.n4), fun k hk => faro (h.r0 k hk) (by omega), fun k hk => ?_, fun k hk => faro (h.r2 k hk) (by omega),
    (Below.heap_setCell w _ _ A.gf (Ne.symm h.n6)).trans h.f, by simpa [World.setCell] using h.lr, h.n1, h.n2, h.n3, h.n4, h.n5, h.n6, h.small, h.tc⟩
  by_cases e : k = i
  · subst e; simp only [upd_same]; exact (h.r1 k hk).set _
  · simp only [upd_other e]; exact faro (h.r1 k hk) (by omega)

theorem ArAt.set_rn {w : World} {b : Nat} {A : Ar} (h : ArAt w b A) {i : Nat} (hi : i < A.nr) (x : Int) : ArAt (w.setCell ⟨A.gr, i * 3 + 2, none⟩ (.int .i64 x)) b { A with rn := upd A.rn i x } := by
  have farb : ∀ {g o : Nat} {v : Value}, Cell w g o v → A.gr ≠ g → Cell (w.setCell ⟨A.gr, i * 3 + 2, none⟩ (.int .i64 x)) g o v := fun hc hg => hc.far (blk_ne hg) _
  have faro : ∀ {o : Nat} {v : Value}, Cell w A.gr o v → i * 3 + 2 ≠ o → Cell (w.setCell ⟨A.gr, i * 3 + 2, none⟩ (.int .i64 x)) A.gr o v := fun hc hg => hc.far (off_ne hg) _
  refine ⟨farb h.c0 (Ne.symm h.n2), farb h.c1 (Ne.symm h.n2), farb h.c2 (Ne.symm h.n2), fun k hk c u hu => farb (h.l0 k hk c u hu) (Ne.symm h.n4), fun k hk => farb (h.l1 k hk) (Ne.symm h.n4), fun k hk => farb (h.l2 k hk) (Ne.symm h.n4), fun k hk => farb (h.l3 k hk) (Ne.symm h.n4), fun k hk => faro (h.r0 k hk) (by omega), fun k hk => faro (h.r1 k hk) (by omega), fun k hk => ?_,
    (Below.heap_setCell w _ _ A.gf (Ne.symm h.n6)).trans h.f, by simpa [World.setCell] using h.lr, h.n1, h.n2, h.n3, h.n4, h.n5, h.n6, h.small, h.tc⟩
  by_cases e : k = i
  · subst e; simp only [upd_same]; exact (h.r2 k hk).set _
  · simp only [upd_other e]; exact faro (h.r2 k hk) (by omega)
end Od
end Go.Proofs.Ytkglplngnjgnhaa

/- Slots: the calls that only look, walked. Conditions: an arena as New lays it. -/
namespace Go.Proofs.Ytkglplngnjgnhaa
set_option linter.unusedVariables false
set_option linter.unusedSimpArgs false
namespace Od
open Go.RowKit

--<shared>
def Ar.isRow (A : Ar) (r : Int) : Prop := 0 ≤ r ∧ r < A.nr
instance (A : Ar) (r : Int) : Decidable (A.isRow r) := by unfold Ar.isRow; infer_instance
def Ar.hasN (A : Ar) (n : Int) : Prop := (0 ≤ n ∧ n < A.room) ∧ A.ro n.toNat ≠ -1
instance (A : Ar) (n : Int) : Decidable (A.hasN n) := by unfold Ar.hasN; infer_instance

--</shared>
set_option maxHeartbeats 1000000 in
theorem s_is (w : World) (b : Nat) (A : Ar) (r : Int) (h : ArAt w b A) :
    Calls Try.prog 99 #[.pointer (some ⟨b, 0, none⟩), .int .i64 r] w fun e w' => e = .returned (.bool (decide (A.isRow r))) ∧ w = w' := by
  have c1 := h.c1.cell
  have hlt := h.c1.lt
  have hs := h.small.2.1
  clear h
  unfold Ar.isRow
  by_cases h1 : 0 ≤ r
  · by_cases h2 : r < A.nr
    · have e : decide (0 ≤ r ∧ r < (A.nr : Int)) = true := by simp [h1, h2]
      rw [e]; clear e
      go_enter Try.func99, Try.ntmps99
      go_wp2
      go_ret
      exact ⟨rfl, rfl⟩
    · have e : decide (0 ≤ r ∧ r < (A.nr : Int)) = false := by simp; omega
      have h3 : decide (r < (A.nr : Int)) = false := by simpa using h2
      rw [e]; clear e h2
      go_enter Try.func99, Try.ntmps99
      go_wp2
      go_ret
      exact ⟨rfl, rfl⟩
  · have e : decide (0 ≤ r ∧ r < (A.nr : Int)) = false := by simp; omega
    have h3 : decide (0 ≤ r) = false := by simpa using h1
    rw [e]; clear e h1
    go_enter Try.func99, Try.ntmps99
    go_wp2
    go_ret
    exact ⟨rfl, rfl⟩

set_option maxHeartbeats 1000000 in
theorem s_has (w : World) (b : Nat) (A : Ar) (n : Int) (h : ArAt w b A) :
    Calls Try.prog 101 #[.pointer (some ⟨b, 0, none⟩), .int .i64 n] w fun e w' => e = .returned (.bool (decide (A.hasN n))) ∧ w = w' := by
  have c0 := h.c0.cell
  have hlt := h.c0.lt
  have hs := h.small.1
  unfold Ar.hasN
  by_cases h1 : 0 ≤ n
  · by_cases h2 : n < A.room
    · have c := (h.l1 n.toNat (by omega)).cell
      by_cases h3 : A.ro n.toNat = -1
      · have e : decide ((0 ≤ n ∧ n < (A.room : Int)) ∧ A.ro n.toNat ≠ -1) = false := by simp [h3]
        rw [e]
        rw [h3] at c
        clear e h h3
        go_enter Try.func101, Try.ntmps101
        go_wp2
        go_ret
        exact ⟨rfl, rfl⟩
      · have e : decide ((0 ≤ n ∧ n < (A.room : Int)) ∧ A.ro n.toNat ≠ -1) = true := by simp [h1, h2, h3]
        have h4 : (A.ro n.toNat != -1) = true := by simpa using h3
        rw [e]
        generalize A.ro n.toNat = x at *
        clear e h h3
        go_enter Try.func101, Try.ntmps101
        go_wp2
        go_ret
        exact ⟨rfl, rfl⟩
    · have e : decide ((0 ≤ n ∧ n < (A.room : Int)) ∧ A.ro n.toNat ≠ -1) = false := by simp [h2]
      have h3 : decide (n < (A.room : Int)) = false := by simpa using h2
      rw [e]; clear e h2 h
      go_enter Try.func101, Try.ntmps101
      go_wp2
      go_ret
      exact ⟨rfl, rfl⟩
  · have e : decide ((0 ≤ n ∧ n < (A.room : Int)) ∧ A.ro n.toNat ≠ -1) = false := by simp [h1]
    have h3 : decide (0 ≤ n) = false := by simpa using h1
    rw [e]; clear e h1 h
    go_enter Try.func101, Try.ntmps101
    go_wp2
    go_ret
    exact ⟨rfl, rfl⟩

set_option maxHeartbeats 1000000 in
theorem s_first (w : World) (b : Nat) (A : Ar) (r : Int) (h : ArAt w b A) :
    Calls Try.prog 111 #[.pointer (some ⟨b, 0, none⟩), .int .i64 r] w fun e w' => e = .returned (.int .i64 (if A.isRow r then A.rf r.toNat else -1)) ∧ w = w' := by
  have HI := Lib.hid (s_is w b A r h)
  have c1 := h.c1.cell
  have hlt := h.c1.lt
  by_cases hr : A.isRow r
  · rw [if_pos hr]
    have e : decide (A.isRow r) = true := by simp [hr]
    rw [e] at HI
    have h1 := hr.1
    have h2 := hr.2
    have c := (h.r0 r.toNat (by omega)).cell
    generalize A.rf r.toNat = x at *
    clear e h hr
    go_enter Try.func111, Try.ntmps111
    go_wp2_with ((go_at_call 99; refine HI.out.mono ?_; rintro e w1 ⟨rfl, rfl⟩))
    go_ret
    exact ⟨rfl, rfl⟩
  · rw [if_neg hr]
    have e : decide (A.isRow r) = false := by simp [hr]
    rw [e] at HI
    clear e h hr
    go_enter Try.func111, Try.ntmps111
    go_wp2_with ((go_at_call 99; refine HI.out.mono ?_; rintro e w1 ⟨rfl, rfl⟩))
    go_ret
    exact ⟨rfl, rfl⟩
end Od
end Go.Proofs.Ytkglplngnjgnhaa

/- Slots: Push, walked. Conditions: an arena as New lays it, its numbers in their ranges. -/
namespace Go.Proofs.Ytkglplngnjgnhaa
set_option linter.unusedVariables false
set_option linter.unusedSimpArgs false
namespace Od
open Go.RowKit

--<shared>
def Ar.push (A : Ar) (r : Nat) (v : Value) : Ar :=
  { A.least with
    th := upd A.th (A.fr 0).toNat v
    ro := upd A.ro (A.fr 0).toNat r
    ah := upd A.ah (A.fr 0).toNat (A.rl r)
    fa := if A.rl r = -1 then upd A.fa (A.fr 0).toNat (-1) else upd (upd A.fa (A.fr 0).toNat (-1)) (A.rl r).toNat (A.fr 0)
    rf := if A.rl r = -1 then upd A.rf r (A.fr 0) else A.rf
    rl := upd A.rl r (A.fr 0)
    rn := upd A.rn r (A.rn r + 1) }

--</shared>
set_option maxHeartbeats 1000000 in
theorem s_push_bad (w : World) (b : Nat) (A : Ar) (r : Int) (v0 v1 v2 v3 v4 : Int) (h : ArAt w b A) (hr : ¬ A.isRow r) :
    Calls Try.prog 58 #[.pointer (some ⟨b, 0, none⟩), .int .i64 r, .agg #[.int .i64 v0, .int .i64 v1, .int .u8 v2, .int .i64 v3, .int .i64 v4]] w fun e w' => e = .returned (.tuple #[.int .i64 0, .int .i64 1]) ∧ Only (fun _ => False) w w' := by
  have h0 := h.alloc (.cells #[.int .i64 v0, .int .i64 v1, .int .u8 v2, .int .i64 v3, .int .i64 v4] 54)
  have HI := Lib.hid (s_is _ b A r h0)
  have e : decide (A.isRow r) = false := by simp [hr]
  rw [e] at HI
  clear e h h0 hr
  go_enter Try.func58, Try.ntmps58
  go_wp2_with ((go_at_call 99; refine HI.out.mono ?_; rintro e w1 ⟨rfl, rfl⟩))
  go_returns
  exact ⟨rfl, by repeat' (first | (with_reducible exact Only.refl _ _) | (with_reducible assumption) | (refine Only.of_none ?_; with_reducible assumption) | (with_reducible refine Only.drewN ?_ _) | (with_reducible refine Only.drew ?_) | (with_reducible refine Only.alloc ?_ _) | (with_reducible refine Only.setCell ?_ ?_ _) | (with_reducible refine Only.then0 ?_ (by with_reducible assumption)) | (with_reducible refine Only.thenN ?_ (by with_reducible assumption) ?_) | (with_reducible refine Only.trans ?_ (by with_reducible assumption)) | (refine .inl ?_; first | rfl | (simp; done) | (simp [Ar.blk]; done)) | (refine .inr ?_; first | omega | (simp; done) | (simp; omega) | exact Only.size (by with_reducible assumption) | (refine Nat.le_trans (Only.size (by with_reducible assumption)) ?_; simp; done)))⟩

set_option maxHeartbeats 1000000 in
theorem s_push_full (w : World) (b : Nat) (A : Ar) (r : Int) (v0 v1 v2 v3 v4 : Int) (h : ArAt w b A) (hr : A.isRow r) (hn : A.nf = 0) :
    Calls Try.prog 58 #[.pointer (some ⟨b, 0, none⟩), .int .i64 r, .agg #[.int .i64 v0, .int .i64 v1, .int .u8 v2, .int .i64 v3, .int .i64 v4]] w fun e w' => e = .returned (.tuple #[.int .i64 0, .int .i64 40]) ∧ Only (fun _ => False) w w' := by
  have h0 := h.alloc (.cells #[.int .i64 v0, .int .i64 v1, .int .u8 v2, .int .i64 v3, .int .i64 v4] 54)
  have HI := Lib.hid (s_is _ b A r h0)
  have e : decide (A.isRow r) = true := by simp [hr]
  rw [e] at HI
  have c2 := h0.c2.cell
  have hlt := h0.c2.lt
  have hlt0 := h.c2.lt
  have hgf0 := h.gf_lt
  rw [hn] at c2
  clear e h h0 hr hn
  go_enter Try.func58, Try.ntmps58
  go_wp2_with ((go_at_call 99; refine HI.out.mono ?_; rintro e w1 ⟨rfl, rfl⟩))
  go_returns
  exact ⟨rfl, by repeat' (first | (with_reducible exact Only.refl _ _) | (with_reducible assumption) | (refine Only.of_none ?_; with_reducible assumption) | (with_reducible refine Only.drewN ?_ _) | (with_reducible refine Only.drew ?_) | (with_reducible refine Only.alloc ?_ _) | (with_reducible refine Only.setCell ?_ ?_ _) | (with_reducible refine Only.then0 ?_ (by with_reducible assumption)) | (with_reducible refine Only.thenN ?_ (by with_reducible assumption) ?_) | (with_reducible refine Only.trans ?_ (by with_reducible assumption)) | (refine .inl ?_; first | rfl | (simp; done) | (simp [Ar.blk]; done)) | (refine .inr ?_; first | omega | (simp; done) | (simp; omega) | exact Only.size (by with_reducible assumption) | (refine Nat.le_trans (Only.size (by with_reducible assumption)) ?_; simp; done)))⟩

set_option maxHeartbeats 4000000 in
set_option maxRecDepth 100000 in
theorem s_push (w : World) (b : Nat) (A : Ar) (r : Nat) (v0 v1 v2 v3 v4 : Int) (h : ArAt w b A) (hr : r < A.nr) (hn : 0 < A.nf) (n : Nat) (hfn : A.fr 0 = (n : Int)) (hnr : n < A.room) (hl : A.rl r = -1 ∨ (0 ≤ A.rl r ∧ A.rl r < A.room)) (hc : 0 ≤ A.rn r ∧ A.rn r ≤ 65536) :
    Calls Try.prog 58 #[.pointer (some ⟨b, 0, none⟩), .int .i64 r, .agg #[.int .i64 v0, .int .i64 v1, .int .u8 v2, .int .i64 v3, .int .i64 v4]] w fun e w' => e = .returned (.tuple #[.int .i64 n, .int .i64 0]) ∧ ArAt w' b (A.push r (.agg #[.int .i64 v0, .int .i64 v1, .int .u8 v2, .int .i64 v3, .int .i64 v4])) ∧ Only (A.blk b) w w' := by
  have hir : A.isRow r := ⟨by omega, by omega⟩
  have h0 := h.alloc (.cells #[.int .i64 v0, .int .i64 v1, .int .u8 v2, .int .i64 v3, .int .i64 v4] 54)
  have HI := Lib.hid (s_is _ b A r h0)
  have e : decide (A.isRow r) = true := by simp [hir]
  rw [e] at HI
  have hle := fun W (hW : ArAt W b A) => s_least W b A hW hn
  rw [hfn] at hle
  have HLE := Lib.hid hle
  clear hle
  have c2 := h0.c2.cell
  have c1 := h0.c1.cell
  have hlt := h0.c2.lt
  have hlt0 := h.c2.lt
  have hgf0 := h.gf_lt
  have hs := h.small
  have hnf : ((A.nf : Int) == 0) = false := by simp; omega
  have hr16 : r < 65536 := by omega
  have HAr := Lib.hid h
  clear e h h0 hir
  go_enter Try.func58, Try.ntmps58
  go_upto_region 5 with ((go_at_call 99; refine HI.out.mono ?_; rintro e w1 ⟨rfl, rfl⟩))
  go_cut [8, 9] (fun s8 s9 wc => s8 = .int .i64 n ∧ s9 = .pointer (some ⟨A.gr, r * 3, none⟩) ∧ ArAt wc b A.least ∧ Only (fun i => i = b ∨ i = A.gf) (w.alloc (.cells #[.int .i64 v0, .int .i64 v1, .int .u8 v2, .int .i64 v3, .int .i64 v4] 54)) wc)
  case first =>
    go_region_with (go_at_call 100; refine (HLE.out _ (by (repeat (first | (with_reducible refine ArAt.drew ?_) | (with_reducible refine ArAt.drewN ?_ _) | (with_reducible refine ArAt.alloc ?_ _))); exact HAr.out)).mono ?_; rintro e w1 ⟨rfl, hA1, o1⟩; have d1 := hA1.c1.cell; simp only [Ar.least] at d1; have HA1 := Lib.hid hA1; clear hA1)
    all_goals
      go_wp2_with fail
      go_meet
      exact ⟨rfl, rfl, (by (repeat (first | (with_reducible refine ArAt.drew ?_) | (with_reducible refine ArAt.drewN ?_ _) | (with_reducible refine ArAt.alloc ?_ _))); exact HA1.out), by repeat' (first | (with_reducible exact Only.refl _ _) | (with_reducible assumption) | (refine Only.of_none ?_; with_reducible assumption) | (with_reducible refine Only.drewN ?_ _) | (with_reducible refine Only.drew ?_) | (with_reducible refine Only.alloc ?_ _) | (with_reducible refine Only.setCell ?_ ?_ _) | (with_reducible refine Only.then0 ?_ (by with_reducible assumption)) | (with_reducible refine Only.thenN ?_ (by with_reducible assumption) ?_) | (with_reducible refine Only.trans ?_ (by with_reducible assumption)) | (refine .inl ?_; first | rfl | (simp; done) | (simp [Ar.blk]; done)) | (refine .inr ?_; first | omega | (simp; done) | (simp; omega) | exact Only.size (by with_reducible assumption) | (refine Nat.le_trans (Only.size (by with_reducible assumption)) ?_; simp; done)))⟩
  case rest =>
    obtain ⟨rfl, rfl, hA, o1⟩ := hcut
    obtain ⟨F, hF⟩ : ∃ F, A.least = { A with nf := A.nf - 1, fr := F } := ⟨_, rfl⟩
    obtain ⟨B, hB⟩ : ∃ B : Ar, B = { A with nf := A.nf - 1, fr := F } := ⟨_, rfl⟩
    have hgl : B.gl = A.gl := by rw [hB]
    have hgr : B.gr = A.gr := by rw [hB]
    have hroom : B.room = A.room := by rw [hB]
    have hnrB : B.nr = A.nr := by rw [hB]
    have hrlB : B.rl = A.rl := by rw [hB]
    have hrnB : B.rn = A.rn := by rw [hB]
    have hp : A.push r (.agg #[.int .i64 v0, .int .i64 v1, .int .u8 v2, .int .i64 v3, .int .i64 v4]) = { B with
        th := upd B.th n (.agg #[.int .i64 v0, .int .i64 v1, .int .u8 v2, .int .i64 v3, .int .i64 v4]), ro := upd B.ro n r, ah := upd B.ah n (A.rl r)
        fa := if A.rl r = -1 then upd B.fa n (-1) else upd (upd B.fa n (-1)) (A.rl r).toNat n
        rf := if A.rl r = -1 then upd B.rf r n else B.rf, rl := upd B.rl r n, rn := upd B.rn r (A.rn r + 1) } := by
      unfold Ar.push; rw [hF, hB, hfn]; simp only [Int.toNat_natCast]
    rw [hF, ← hB] at hA
    have o1' : Only (A.blk b) w wc := ((Only.refl _ w).alloc _).trans (o1.mono fun _ _ h => h.elim .inl (fun h => .inr (.inr (.inr h))))
    have bx0 := (((Cell.new (w := w) (cs := #[.int .i64 v0, .int .i64 v1, .int .u8 v2, .int .i64 v3, .int .i64 v4]) (t := 54) (o := 0) rfl)).only o1 (by show ¬ (w.heap.size = b ∨ w.heap.size = A.gf); omega)).cell
    have bx1 := (((Cell.new (w := w) (cs := #[.int .i64 v0, .int .i64 v1, .int .u8 v2, .int .i64 v3, .int .i64 v4]) (t := 54) (o := 1) rfl)).only o1 (by show ¬ (w.heap.size = b ∨ w.heap.size = A.gf); omega)).cell
    have bx2 := (((Cell.new (w := w) (cs := #[.int .i64 v0, .int .i64 v1, .int .u8 v2, .int .i64 v3, .int .i64 v4]) (t := 54) (o := 2) rfl)).only o1 (by show ¬ (w.heap.size = b ∨ w.heap.size = A.gf); omega)).cell
    have bx3 := (((Cell.new (w := w) (cs := #[.int .i64 v0, .int .i64 v1, .int .u8 v2, .int .i64 v3, .int .i64 v4]) (t := 54) (o := 3) rfl)).only o1 (by show ¬ (w.heap.size = b ∨ w.heap.size = A.gf); omega)).cell
    have bx4 := (((Cell.new (w := w) (cs := #[.int .i64 v0, .int .i64 v1, .int .u8 v2, .int .i64 v3, .int .i64 v4]) (t := 54) (o := 4) rfl)).only o1 (by show ¬ (w.heap.size = b ∨ w.heap.size = A.gf); omega)).cell
    have zbx := cell_lt bx0
    clear o1
    have c0 := hA.c0.cell
    have d1 := hA.c1.cell
    rw [hgl, hroom] at c0
    rw [hgr, hnrB] at d1
    have hbw := hA.c0.lt
    have hglw := hA.lr.1
    have hgrw := hA.lr.2
    rw [hgl] at hglw
    rw [hgr] at hgrw
    have hsz : (B.th n).cells.size = 5 := hA.tc n (by omega)
    obtain ⟨w0, t00⟩ : ∃ u, Cell wc B.gl (n * 8 + 0) u := ⟨_, hA.l0 n (by omega) 0 _ (Array.getElem?_eq_getElem (by omega))⟩
    obtain ⟨w1, t01⟩ : ∃ u, Cell wc B.gl (n * 8 + 1) u := ⟨_, hA.l0 n (by omega) 1 _ (Array.getElem?_eq_getElem (by omega))⟩
    obtain ⟨w2, t02⟩ : ∃ u, Cell wc B.gl (n * 8 + 2) u := ⟨_, hA.l0 n (by omega) 2 _ (Array.getElem?_eq_getElem (by omega))⟩
    obtain ⟨w3, t03⟩ : ∃ u, Cell wc B.gl (n * 8 + 3) u := ⟨_, hA.l0 n (by omega) 3 _ (Array.getElem?_eq_getElem (by omega))⟩
    obtain ⟨w4, t04⟩ : ∃ u, Cell wc B.gl (n * 8 + 4) u := ⟨_, hA.l0 n (by omega) 4 _ (Array.getElem?_eq_getElem (by omega))⟩
    have t1 := hA.l1 n (by omega)
    have t2 := hA.l2 n (by omega)
    have t3 := hA.l3 n (by omega)
    have q0 := hA.r0 r (by omega)
    have q1 := hA.r1 r (by omega)
    have q2 := hA.r2 r (by omega)
    rw [hgl] at t00 t01 t02 t03 t04 t1 t2 t3
    rw [Nat.add_zero] at t00
    clear hsz
    rw [hgr] at q0 q1 q2
    rw [hrlB] at q1
    rw [hrnB] at q2
    obtain ⟨t00, u00⟩ := t00
    obtain ⟨t01, u01⟩ := t01
    obtain ⟨t02, u02⟩ := t02
    obtain ⟨t03, u03⟩ := t03
    obtain ⟨t04, u04⟩ := t04
    obtain ⟨t1, u1⟩ := t1
    obtain ⟨t2, u2⟩ := t2
    obtain ⟨t3, u3⟩ := t3
    obtain ⟨q0, p0⟩ := q0
    obtain ⟨q1, p1⟩ := q1
    obtain ⟨q2, p2⟩ := q2
    have n1 := hA.n1
    have n2 := hA.n2
    have n4 := hA.n4
    rw [hgl] at n1 n4
    rw [hgr] at n2 n4
    have n1' := Ne.symm n1
    have n2' := Ne.symm n2
    have n4' := Ne.symm n4
    have HP := Lib.hid hp
    by_cases hl1 : A.rl r = -1
    · have HW := Lib.hid (fun W (hW : ArAt W b B) => (((((((hW.set_th (i := n) (by omega) (.int .i64 v0) (.int .i64 v1) (.int .u8 v2) (.int .i64 v3) (.int .i64 v4)).set_ro (i := n) (by simp only; omega) r).set_ah (i := n) (by simp only; omega) (A.rl r)).set_fa (i := n) (by simp only; omega) (-1)).set_rf (i := r) (by simp only; omega) n).set_rl (i := r) (by simp only; omega) n).set_rn (i := r) (by simp only; omega) (A.rn r + 1)))
      simp only [hgl, hgr, hl1, put5] at HW
      rw [hl1] at q1
      simp only [hl1, if_true, hgl, hgr] at HP
      have HBAr := Lib.hid hA
      clear hA hp hF hB hgl hgr hroom hnrB hrlB hrnB HLE HI HAr hl hl1 c1 c2
      generalize A.rn r = rn at *
      go_wp2
      go_region
      go_wp2
      go_returns
      refine ⟨rfl, ?_, by repeat' (first | (with_reducible exact Only.refl _ _) | (with_reducible assumption) | (refine Only.of_none ?_; with_reducible assumption) | (with_reducible refine Only.drewN ?_ _) | (with_reducible refine Only.drew ?_) | (with_reducible refine Only.alloc ?_ _) | (with_reducible refine Only.setCell ?_ ?_ _) | (with_reducible refine Only.then0 ?_ (by with_reducible assumption)) | (with_reducible refine Only.thenN ?_ (by with_reducible assumption) ?_) | (with_reducible refine Only.trans ?_ (by with_reducible assumption)) | (refine .inl ?_; first | rfl | (simp; done) | (simp [Ar.blk]; done)) | (refine .inr ?_; first | omega | (simp; done) | (simp; omega) | exact Only.size (by with_reducible assumption) | (refine Nat.le_trans (Only.size (by with_reducible assumption)) ?_; simp; done)))⟩
      rw [HP.out]
      (repeat (first | (with_reducible refine ArAt.drew ?_) | (with_reducible refine ArAt.drewN ?_ _) | (with_reducible refine ArAt.alloc ?_ _)));
      exact HW.out _ (by (repeat (first | (with_reducible refine ArAt.drew ?_) | (with_reducible refine ArAt.drewN ?_ _) | (with_reducible refine ArAt.alloc ?_ _))); exact HBAr.out)
    · obtain ⟨l, hl2⟩ : ∃ l : Nat, A.rl r = (l : Int) := ⟨(A.rl r).toNat, by omega⟩
      have hlr : l < A.room := by omega
      have hl3 : ((l : Int) == -1) = false := by simp
      have HW := Lib.hid (fun W (hW : ArAt W b B) => (((((((hW.set_th (i := n) (by omega) (.int .i64 v0) (.int .i64 v1) (.int .u8 v2) (.int .i64 v3) (.int .i64 v4)).set_ro (i := n) (by simp only; omega) r).set_ah (i := n) (by simp only; omega) (A.rl r)).set_fa (i := n) (by simp only; omega) (-1)).set_fa (i := l) (by simp only; omega) n).set_rl (i := r) (by simp only; omega) n).set_rn (i := r) (by simp only; omega) (A.rn r + 1)))
      simp only [hgl, hgr, hl2, put5] at HW
      rw [hl2] at q1 hl1
      simp only [hl2, hl1, if_false, Int.toNat_natCast, hgl, hgr] at HP
      have t4 := hA.l3 l (by omega)
      rw [hgl] at t4
      obtain ⟨t4, u4⟩ := t4
      have HBAr := Lib.hid hA
      clear hA hp hF hB hgl hgr hroom hnrB hrlB hrnB HLE HI HAr hl hl2 c1 c2
      generalize A.rn r = rn at *
      by_cases hln : l = n
      · subst hln
        go_wp2
        go_region
        go_wp2
        go_region
        go_wp2
        go_returns
        refine ⟨rfl, ?_, by repeat' (first | (with_reducible exact Only.refl _ _) | (with_reducible assumption) | (refine Only.of_none ?_; with_reducible assumption) | (with_reducible refine Only.drewN ?_ _) | (with_reducible refine Only.drew ?_) | (with_reducible refine Only.alloc ?_ _) | (with_reducible refine Only.setCell ?_ ?_ _) | (with_reducible refine Only.then0 ?_ (by with_reducible assumption)) | (with_reducible refine Only.thenN ?_ (by with_reducible assumption) ?_) | (with_reducible refine Only.trans ?_ (by with_reducible assumption)) | (refine .inl ?_; first | rfl | (simp; done) | (simp [Ar.blk]; done)) | (refine .inr ?_; first | omega | (simp; done) | (simp; omega) | exact Only.size (by with_reducible assumption) | (refine Nat.le_trans (Only.size (by with_reducible assumption)) ?_; simp; done)))⟩
        rw [HP.out]
        (repeat (first | (with_reducible refine ArAt.drew ?_) | (with_reducible refine ArAt.drewN ?_ _) | (with_reducible refine ArAt.alloc ?_ _)));
        exact HW.out _ (by (repeat (first | (with_reducible refine ArAt.drew ?_) | (with_reducible refine ArAt.drewN ?_ _) | (with_reducible refine ArAt.alloc ?_ _))); exact HBAr.out)
      · go_wp2
        go_region
        go_wp2
        go_region
        go_wp2
        go_returns
        refine ⟨rfl, ?_, by repeat' (first | (with_reducible exact Only.refl _ _) | (with_reducible assumption) | (refine Only.of_none ?_; with_reducible assumption) | (with_reducible refine Only.drewN ?_ _) | (with_reducible refine Only.drew ?_) | (with_reducible refine Only.alloc ?_ _) | (with_reducible refine Only.setCell ?_ ?_ _) | (with_reducible refine Only.then0 ?_ (by with_reducible assumption)) | (with_reducible refine Only.thenN ?_ (by with_reducible assumption) ?_) | (with_reducible refine Only.trans ?_ (by with_reducible assumption)) | (refine .inl ?_; first | rfl | (simp; done) | (simp [Ar.blk]; done)) | (refine .inr ?_; first | omega | (simp; done) | (simp; omega) | exact Only.size (by with_reducible assumption) | (refine Nat.le_trans (Only.size (by with_reducible assumption)) ?_; simp; done)))⟩
        rw [HP.out]
        (repeat (first | (with_reducible refine ArAt.drew ?_) | (with_reducible refine ArAt.drewN ?_ _) | (with_reducible refine ArAt.alloc ?_ _)));
        exact HW.out _ (by (repeat (first | (with_reducible refine ArAt.drew ?_) | (with_reducible refine ArAt.drewN ?_ _) | (with_reducible refine ArAt.alloc ?_ _))); exact HBAr.out)
end Od
end Go.Proofs.Ytkglplngnjgnhaa

/- Slots: Take, walked. Conditions: an arena as New lays it, its numbers in their ranges. -/
namespace Go.Proofs.Ytkglplngnjgnhaa
set_option linter.unusedVariables false
set_option linter.unusedSimpArgs false
namespace Od
open Go.RowKit

--<shared>
/-- The links around a number are laid together. -/
def Ar.cut (A : Ar) (n r : Nat) : Ar :=
  { A with
    rf := if A.ah n = -1 then upd A.rf r (A.fa n) else A.rf
    fa := if A.ah n = -1 then A.fa else upd A.fa (A.ah n).toNat (A.fa n)
    rl := if A.fa n = -1 then upd A.rl r (A.ah n) else A.rl
    ah := if A.fa n = -1 then A.ah else upd A.ah (A.fa n).toNat (A.ah n)
    rn := upd A.rn r (A.rn r - 1) }
/-- A link is laid empty. -/
def Ar.wipe (A : Ar) (n : Nat) (z : Value) : Ar := { A with th := upd A.th n z, ro := upd A.ro n (-1), ah := upd A.ah n 0, fa := upd A.fa n 0 }
def Ar.take (A : Ar) (n : Nat) (z : Value) : Ar := ((A.cut n (A.ro n).toNat).wipe n z).give n

--</shared>
set_option maxHeartbeats 1000000 in
theorem s_take_no (w : World) (b : Nat) (A : Ar) (n : Int) (h : ArAt w b A) (hr : ¬ A.hasN n) :
    Calls Try.prog 61 #[.pointer (some ⟨b, 0, none⟩), .int .i64 n] w fun e w' => e = .returned (.tuple #[.agg #[.int .i64 0, .int .i64 0, .int .u8 0, .int .i64 0, .int .i64 0], .bool false]) ∧ Only (fun _ => False) w w' := by
  have h0 := h.alloc (.cells #[.int .i64 0, .int .i64 0, .int .u8 0, .int .i64 0, .int .i64 0] 54)
  have HI := Lib.hid (s_has _ b A n h0)
  have e : decide (A.hasN n) = false := by simp [hr]
  rw [e] at HI
  clear e h h0 hr
  go_enter Try.func61, Try.ntmps61
  go_wp2_with ((go_at_call 101; refine HI.out.mono ?_; rintro e w1 ⟨rfl, rfl⟩))
  go_returns
  exact ⟨rfl, by repeat' (first | (with_reducible exact Only.refl _ _) | (with_reducible assumption) | (refine Only.of_none ?_; with_reducible assumption) | (with_reducible refine Only.drewN ?_ _) | (with_reducible refine Only.drew ?_) | (with_reducible refine Only.alloc ?_ _) | (with_reducible refine Only.setCell ?_ ?_ _) | (with_reducible refine Only.then0 ?_ (by with_reducible assumption)) | (with_reducible refine Only.thenN ?_ (by with_reducible assumption) ?_) | (with_reducible refine Only.trans ?_ (by with_reducible assumption)) | (refine .inl ?_; first | rfl | (simp; done) | (simp [Ar.blk]; done)) | (refine .inr ?_; first | omega | (simp; done) | (simp; omega) | exact Only.size (by with_reducible assumption) | (refine Nat.le_trans (Only.size (by with_reducible assumption)) ?_; simp; done)))⟩

set_option maxHeartbeats 4000000 in
set_option maxRecDepth 100000 in
theorem s_take_nn (w : World) (b : Nat) (A : Ar) (n r : Nat) (v0 v1 v2 v3 v4 : Int) (h : ArAt w b A) (hn : n < A.room) (hro : A.ro n = (r : Int)) (hr : r < A.nr) (hv : A.th n = .agg #[.int .i64 v0, .int .i64 v1, .int .u8 v2, .int .i64 v3, .int .i64 v4]) (hc : 1 ≤ A.rn r ∧ A.rn r ≤ 65536) (hnf : A.nf < A.room) (ha : A.ah n = -1) (hf : A.fa n = -1) :
    Calls Try.prog 61 #[.pointer (some ⟨b, 0, none⟩), .int .i64 n] w fun e w' => e = .returned (.tuple #[.agg #[.int .i64 v0, .int .i64 v1, .int .u8 v2, .int .i64 v3, .int .i64 v4], .bool true]) ∧ ArAt w' b (A.take n (.agg #[.int .i64 0, .int .i64 0, .int .u8 0, .int .i64 0, .int .i64 0])) ∧ Only (A.blk b) w w' := by
  have hir : A.hasN n := ⟨⟨by omega, by omega⟩, by rw [Int.toNat_natCast, hro]; omega⟩
  have h0 := h.alloc (.cells #[.int .i64 0, .int .i64 0, .int .u8 0, .int .i64 0, .int .i64 0] 54)
  have HI := Lib.hid (s_has _ b A n h0)
  have e : decide (A.hasN n) = true := by simp [hir]
  rw [e] at HI
  have hs := h.small
  have hp : A.take n (.agg #[.int .i64 0, .int .i64 0, .int .u8 0, .int .i64 0, .int .i64 0]) = ((A.cut n r).wipe n (.agg #[.int .i64 0, .int .i64 0, .int .u8 0, .int .i64 0, .int .i64 0])).give n := by unfold Ar.take; rw [hro]; rfl
  obtain ⟨B, hB⟩ : ∃ B : Ar, B = (A.cut n r).wipe n (.agg #[.int .i64 0, .int .i64 0, .int .u8 0, .int .i64 0, .int .i64 0]) := ⟨_, rfl⟩
  rw [← hB] at hp
  have hBnf : B.nf < B.room := by rw [hB]; exact hnf
  have hBgf : B.gf = A.gf := by rw [hB]; rfl
  have HG := Lib.hid (fun W (hW : ArAt W b B) => s_give W b B n hW hBnf)
  have HW := Lib.hid (fun W (hW : ArAt W b A) => (((((((hW.set_rf (i := r) (by omega) (A.fa n)).set_rl (i := r) (by simp only; omega) (A.ah n)).set_rn (i := r) (by simp only; omega) (A.rn r - 1)).set_th (i := n) (by simp only; omega) (.int .i64 0) (.int .i64 0) (.int .u8 0) (.int .i64 0) (.int .i64 0)).set_ro (i := n) (by simp only; omega) (-1)).set_ah (i := n) (by simp only; omega) 0).set_fa (i := n) (by simp only; omega) 0))
  have hB' : B = { A with rf := upd A.rf r (A.fa n), fa := upd (A.fa) n 0, rl := upd A.rl r (A.ah n), ah := upd (A.ah) n 0, rn := upd A.rn r (A.rn r - 1), th := upd A.th n (.agg #[.int .i64 0, .int .i64 0, .int .u8 0, .int .i64 0, .int .i64 0]), ro := upd A.ro n (-1) } := by
    rw [hB]; unfold Ar.cut Ar.wipe; simp [ha, hf]
  simp only [ha, hf, put5] at HW hB'
  have HBB := Lib.hid hB'
  have c0 := h0.c0.cell
  have c1 := h0.c1.cell
  have c2 := h0.c2.cell
  have hbw := h0.c0.lt
  have hbw0 := h.c0.lt
  have hglw := h0.lr.1
  have hglw0 := h.lr.1
  have hgrw := h0.lr.2
  have hgrw0 := h.lr.2
  obtain ⟨t00, u00⟩ := h0.l0 n (by omega) 0 (.int .i64 v0) (by rw [hv]; rfl)
  obtain ⟨t01, u01⟩ := h0.l0 n (by omega) 1 (.int .i64 v1) (by rw [hv]; rfl)
  obtain ⟨t02, u02⟩ := h0.l0 n (by omega) 2 (.int .u8 v2) (by rw [hv]; rfl)
  obtain ⟨t03, u03⟩ := h0.l0 n (by omega) 3 (.int .i64 v3) (by rw [hv]; rfl)
  obtain ⟨t04, u04⟩ := h0.l0 n (by omega) 4 (.int .i64 v4) (by rw [hv]; rfl)
  rw [Nat.add_zero] at t00 u00
  obtain ⟨t1, u1⟩ := h0.l1 n (by omega)
  obtain ⟨t2, u2⟩ := h0.l2 n (by omega)
  obtain ⟨t3, u3⟩ := h0.l3 n (by omega)
  obtain ⟨q0, p0⟩ := h0.r0 r (by omega)
  obtain ⟨q1, p1⟩ := h0.r1 r (by omega)
  obtain ⟨q2, p2⟩ := h0.r2 r (by omega)
  rw [hro] at t1
  rw [ha] at t2
  rw [hf] at t3
  have n1 := h.n1
  have n2 := h.n2
  have n4 := h.n4
  have n1' := Ne.symm n1
  have n2' := Ne.symm n2
  have n4' := Ne.symm n4
  have HP := Lib.hid hp
  have HGF := Lib.hid hBgf
  have HAr := Lib.hid h
  clear e h h0 hir hB hB' hp hBgf hBnf hro ha hf hv
  generalize A.rn r = rn at *
  go_enter Try.func61, Try.ntmps61
  go_wp2_with ((go_at_call 101; refine HI.out.mono ?_; rintro e w1 ⟨rfl, rfl⟩))
  go_quiet (fail)
  go_wp2_with (fail)
  refine (HG.out _ (by rw [HBB.out]; (repeat (first | (with_reducible refine ArAt.drew ?_) | (with_reducible refine ArAt.drewN ?_ _) | (with_reducible refine ArAt.alloc ?_ _))); exact HW.out _ (by (repeat (first | (with_reducible refine ArAt.drew ?_) | (with_reducible refine ArAt.drewN ?_ _) | (with_reducible refine ArAt.alloc ?_ _))); exact HAr.out))).mono ?_
  rintro e w2 ⟨rfl, hA2, o2⟩
  rw [HGF.out] at o2
  have o3 : Only (A.blk b) ((w.alloc (.cells #[.int .i64 0, .int .i64 0, .int .u8 0, .int .i64 0, .int .i64 0] 54)).alloc (.cells #[.int .i64 v0, .int .i64 v1, .int .u8 v2, .int .i64 v3, .int .i64 v4, .int .i64 r, .int .i64 (-1), .int .i64 (-1)] 168)) w2 := Only.trans' (by repeat' (first | (with_reducible exact Only.refl _ _) | (with_reducible assumption) | (refine Only.of_none ?_; with_reducible assumption) | (with_reducible refine Only.drewN ?_ _) | (with_reducible refine Only.drew ?_) | (with_reducible refine Only.alloc ?_ _) | (with_reducible refine Only.setCell ?_ ?_ _) | (with_reducible refine Only.then0 ?_ (by with_reducible assumption)) | (with_reducible refine Only.thenN ?_ (by with_reducible assumption) ?_) | (with_reducible refine Only.trans ?_ (by with_reducible assumption)) | (refine .inl ?_; first | rfl | (simp; done) | (simp [Ar.blk]; done)) | (refine .inr ?_; first | omega | (simp; done) | (simp; omega) | exact Only.size (by with_reducible assumption) | (refine Nat.le_trans (Only.size (by with_reducible assumption)) ?_; simp; done)))) o2 (fun i _ h => h.elim .inl (fun h => .inr (.inr (.inr h))))
  have hgfw := HAr.out.gf_lt
  have d00 := o3.cell (b := w.heap.size + 1) (o := 0) (v := .int .i64 v0) (by simp [go_sem]) (by unfold Ar.blk; omega)
  have d01 := o3.cell (b := w.heap.size + 1) (o := 1) (v := .int .i64 v1) (by simp [go_sem]) (by unfold Ar.blk; omega)
  have d02 := o3.cell (b := w.heap.size + 1) (o := 2) (v := .int .u8 v2) (by simp [go_sem]) (by unfold Ar.blk; omega)
  have d03 := o3.cell (b := w.heap.size + 1) (o := 3) (v := .int .i64 v3) (by simp [go_sem]) (by unfold Ar.blk; omega)
  have d04 := o3.cell (b := w.heap.size + 1) (o := 4) (v := .int .i64 v4) (by simp [go_sem]) (by unfold Ar.blk; omega)
  have zb0 := ((Cell.new (w := w) (cs := #[.int .i64 0, .int .i64 0, .int .u8 0, .int .i64 0, .int .i64 0]) (t := 54) (o := 0) rfl).alloc _).only o3 (by show ¬ A.blk b w.heap.size; unfold Ar.blk; omega)
  have zc0 := zb0.cell
  have zf0 := zb0.free
  have zb1 := ((Cell.new (w := w) (cs := #[.int .i64 0, .int .i64 0, .int .u8 0, .int .i64 0, .int .i64 0]) (t := 54) (o := 1) rfl).alloc _).only o3 (by show ¬ A.blk b w.heap.size; unfold Ar.blk; omega)
  have zc1 := zb1.cell
  have zf1 := zb1.free
  have zb2 := ((Cell.new (w := w) (cs := #[.int .i64 0, .int .i64 0, .int .u8 0, .int .i64 0, .int .i64 0]) (t := 54) (o := 2) rfl).alloc _).only o3 (by show ¬ A.blk b w.heap.size; unfold Ar.blk; omega)
  have zc2 := zb2.cell
  have zf2 := zb2.free
  have zb3 := ((Cell.new (w := w) (cs := #[.int .i64 0, .int .i64 0, .int .u8 0, .int .i64 0, .int .i64 0]) (t := 54) (o := 3) rfl).alloc _).only o3 (by show ¬ A.blk b w.heap.size; unfold Ar.blk; omega)
  have zc3 := zb3.cell
  have zf3 := zb3.free
  have zb4 := ((Cell.new (w := w) (cs := #[.int .i64 0, .int .i64 0, .int .u8 0, .int .i64 0, .int .i64 0]) (t := 54) (o := 4) rfl).alloc _).only o3 (by show ¬ A.blk b w.heap.size; unfold Ar.blk; omega)
  have zc4 := zb4.cell
  have zf4 := zb4.free
  have rr0 : (((((w2.setCell ⟨w.heap.size, 0, none⟩ (.int .i64 v0)).setCell ⟨w.heap.size, 1, none⟩ (.int .i64 v1)).setCell ⟨w.heap.size, 2, none⟩ (.int .u8 v2)).setCell ⟨w.heap.size, 3, none⟩ (.int .i64 v3)).setCell ⟨w.heap.size, 4, none⟩ (.int .i64 v4)).cell? ⟨w.heap.size, 0, none⟩ = some (.int .i64 v0) := (show Cell (((((w2.setCell ⟨w.heap.size, 0, none⟩ (.int .i64 v0)).setCell ⟨w.heap.size, 1, none⟩ (.int .i64 v1)).setCell ⟨w.heap.size, 2, none⟩ (.int .u8 v2)).setCell ⟨w.heap.size, 3, none⟩ (.int .i64 v3)).setCell ⟨w.heap.size, 4, none⟩ (.int .i64 v4)) w.heap.size 0 (.int .i64 v0) from (((((zb0.set _).far (off_ne (by decide)) _).far (off_ne (by decide)) _).far (off_ne (by decide)) _).far (off_ne (by decide)) _)).cell
  have rr1 : (((((w2.setCell ⟨w.heap.size, 0, none⟩ (.int .i64 v0)).setCell ⟨w.heap.size, 1, none⟩ (.int .i64 v1)).setCell ⟨w.heap.size, 2, none⟩ (.int .u8 v2)).setCell ⟨w.heap.size, 3, none⟩ (.int .i64 v3)).setCell ⟨w.heap.size, 4, none⟩ (.int .i64 v4)).cell? ⟨w.heap.size, 1, none⟩ = some (.int .i64 v1) := (show Cell (((((w2.setCell ⟨w.heap.size, 0, none⟩ (.int .i64 v0)).setCell ⟨w.heap.size, 1, none⟩ (.int .i64 v1)).setCell ⟨w.heap.size, 2, none⟩ (.int .u8 v2)).setCell ⟨w.heap.size, 3, none⟩ (.int .i64 v3)).setCell ⟨w.heap.size, 4, none⟩ (.int .i64 v4)) w.heap.size 1 (.int .i64 v1) from (((((zb1.far (off_ne (by decide)) _).set _).far (off_ne (by decide)) _).far (off_ne (by decide)) _).far (off_ne (by decide)) _)).cell
  have rr2 : (((((w2.setCell ⟨w.heap.size, 0, none⟩ (.int .i64 v0)).setCell ⟨w.heap.size, 1, none⟩ (.int .i64 v1)).setCell ⟨w.heap.size, 2, none⟩ (.int .u8 v2)).setCell ⟨w.heap.size, 3, none⟩ (.int .i64 v3)).setCell ⟨w.heap.size, 4, none⟩ (.int .i64 v4)).cell? ⟨w.heap.size, 2, none⟩ = some (.int .u8 v2) := (show Cell (((((w2.setCell ⟨w.heap.size, 0, none⟩ (.int .i64 v0)).setCell ⟨w.heap.size, 1, none⟩ (.int .i64 v1)).setCell ⟨w.heap.size, 2, none⟩ (.int .u8 v2)).setCell ⟨w.heap.size, 3, none⟩ (.int .i64 v3)).setCell ⟨w.heap.size, 4, none⟩ (.int .i64 v4)) w.heap.size 2 (.int .u8 v2) from (((((zb2.far (off_ne (by decide)) _).far (off_ne (by decide)) _).set _).far (off_ne (by decide)) _).far (off_ne (by decide)) _)).cell
  have rr3 : (((((w2.setCell ⟨w.heap.size, 0, none⟩ (.int .i64 v0)).setCell ⟨w.heap.size, 1, none⟩ (.int .i64 v1)).setCell ⟨w.heap.size, 2, none⟩ (.int .u8 v2)).setCell ⟨w.heap.size, 3, none⟩ (.int .i64 v3)).setCell ⟨w.heap.size, 4, none⟩ (.int .i64 v4)).cell? ⟨w.heap.size, 3, none⟩ = some (.int .i64 v3) := (show Cell (((((w2.setCell ⟨w.heap.size, 0, none⟩ (.int .i64 v0)).setCell ⟨w.heap.size, 1, none⟩ (.int .i64 v1)).setCell ⟨w.heap.size, 2, none⟩ (.int .u8 v2)).setCell ⟨w.heap.size, 3, none⟩ (.int .i64 v3)).setCell ⟨w.heap.size, 4, none⟩ (.int .i64 v4)) w.heap.size 3 (.int .i64 v3) from (((((zb3.far (off_ne (by decide)) _).far (off_ne (by decide)) _).far (off_ne (by decide)) _).set _).far (off_ne (by decide)) _)).cell
  have rr4 : (((((w2.setCell ⟨w.heap.size, 0, none⟩ (.int .i64 v0)).setCell ⟨w.heap.size, 1, none⟩ (.int .i64 v1)).setCell ⟨w.heap.size, 2, none⟩ (.int .u8 v2)).setCell ⟨w.heap.size, 3, none⟩ (.int .i64 v3)).setCell ⟨w.heap.size, 4, none⟩ (.int .i64 v4)).cell? ⟨w.heap.size, 4, none⟩ = some (.int .i64 v4) := (show Cell (((((w2.setCell ⟨w.heap.size, 0, none⟩ (.int .i64 v0)).setCell ⟨w.heap.size, 1, none⟩ (.int .i64 v1)).setCell ⟨w.heap.size, 2, none⟩ (.int .u8 v2)).setCell ⟨w.heap.size, 3, none⟩ (.int .i64 v3)).setCell ⟨w.heap.size, 4, none⟩ (.int .i64 v4)) w.heap.size 4 (.int .i64 v4) from (((((zb4.far (off_ne (by decide)) _).far (off_ne (by decide)) _).far (off_ne (by decide)) _).far (off_ne (by decide)) _).set _)).cell
  have OZ := Lib.hid (show Only (· = w.heap.size) w2 (((((w2.setCell ⟨w.heap.size, 0, none⟩ (.int .i64 v0)).setCell ⟨w.heap.size, 1, none⟩ (.int .i64 v1)).setCell ⟨w.heap.size, 2, none⟩ (.int .u8 v2)).setCell ⟨w.heap.size, 3, none⟩ (.int .i64 v3)).setCell ⟨w.heap.size, 4, none⟩ (.int .i64 v4)) from (((((Only.refl (· = w.heap.size) w2).setCell (.inl rfl) _).setCell (.inl rfl) _).setCell (.inl rfl) _).setCell (.inl rfl) _).setCell (.inl rfl) _)
  have HA2 := Lib.hid hA2
  have O3 := Lib.hid o3
  clear hA2 o2 zb0 zb1 zb2 zb3 zb4 o3
  go_wp2
  refine bodyPost_ret (by simp [results, Try.results61, go_sem, rr0, rr1, rr2, rr3, rr4]; try rfl) rfl ?_
  refine ⟨rfl, by rw [HP.out]; exact ArAt.only HA2.out OZ.out (by show ¬ (b = w.heap.size); omega) (by rw [show (B.give n).gl = A.gl by rw [HBB.out]; rfl]; show ¬ (A.gl = w.heap.size); omega) (by rw [show (B.give n).gr = A.gr by rw [HBB.out]; rfl]; show ¬ (A.gr = w.heap.size); omega) (by rw [show (B.give n).gf = A.gf by rw [HBB.out]; rfl]; show ¬ (A.gf = w.heap.size); omega), ?_⟩
  exact ((((Only.refl _ w).alloc _).alloc _).trans O3.out).trans' OZ.out (fun i hi e => by omega)

set_option maxHeartbeats 4000000 in
set_option maxRecDepth 100000 in
theorem s_take_ns (w : World) (b : Nat) (A : Ar) (n r : Nat) (v0 v1 v2 v3 v4 : Int) (h : ArAt w b A) (hn : n < A.room) (hro : A.ro n = (r : Int)) (hr : r < A.nr) (hv : A.th n = .agg #[.int .i64 v0, .int .i64 v1, .int .u8 v2, .int .i64 v3, .int .i64 v4]) (hc : 1 ≤ A.rn r ∧ A.rn r ≤ 65536) (hnf : A.nf < A.room) (ha : A.ah n = -1) (f : Nat) (hf : A.fa n = (f : Int)) (hfr : f < A.room) (hfn : f ≠ n) :
    Calls Try.prog 61 #[.pointer (some ⟨b, 0, none⟩), .int .i64 n] w fun e w' => e = .returned (.tuple #[.agg #[.int .i64 v0, .int .i64 v1, .int .u8 v2, .int .i64 v3, .int .i64 v4], .bool true]) ∧ ArAt w' b (A.take n (.agg #[.int .i64 0, .int .i64 0, .int .u8 0, .int .i64 0, .int .i64 0])) ∧ Only (A.blk b) w w' := by
  have hir : A.hasN n := ⟨⟨by omega, by omega⟩, by rw [Int.toNat_natCast, hro]; omega⟩
  have h0 := h.alloc (.cells #[.int .i64 0, .int .i64 0, .int .u8 0, .int .i64 0, .int .i64 0] 54)
  have HI := Lib.hid (s_has _ b A n h0)
  have e : decide (A.hasN n) = true := by simp [hir]
  rw [e] at HI
  have hs := h.small
  have hp : A.take n (.agg #[.int .i64 0, .int .i64 0, .int .u8 0, .int .i64 0, .int .i64 0]) = ((A.cut n r).wipe n (.agg #[.int .i64 0, .int .i64 0, .int .u8 0, .int .i64 0, .int .i64 0])).give n := by unfold Ar.take; rw [hro]; rfl
  obtain ⟨B, hB⟩ : ∃ B : Ar, B = (A.cut n r).wipe n (.agg #[.int .i64 0, .int .i64 0, .int .u8 0, .int .i64 0, .int .i64 0]) := ⟨_, rfl⟩
  rw [← hB] at hp
  have hBnf : B.nf < B.room := by rw [hB]; exact hnf
  have hBgf : B.gf = A.gf := by rw [hB]; rfl
  have HG := Lib.hid (fun W (hW : ArAt W b B) => s_give W b B n hW hBnf)
  have HW := Lib.hid (fun W (hW : ArAt W b A) => (((((((hW.set_rf (i := r) (by omega) (A.fa n)).set_ah (i := f) (by simp only; omega) (A.ah n)).set_rn (i := r) (by simp only; omega) (A.rn r - 1)).set_th (i := n) (by simp only; omega) (.int .i64 0) (.int .i64 0) (.int .u8 0) (.int .i64 0) (.int .i64 0)).set_ro (i := n) (by simp only; omega) (-1)).set_ah (i := n) (by simp only; omega) 0).set_fa (i := n) (by simp only; omega) 0))
  have hB' : B = { A with rf := upd A.rf r (A.fa n), fa := upd (A.fa) n 0, rl := A.rl, ah := upd (upd A.ah f (A.ah n)) n 0, rn := upd A.rn r (A.rn r - 1), th := upd A.th n (.agg #[.int .i64 0, .int .i64 0, .int .u8 0, .int .i64 0, .int .i64 0]), ro := upd A.ro n (-1) } := by
    rw [hB]; unfold Ar.cut Ar.wipe; simp [ha, hf]
  simp only [ha, hf, put5] at HW hB'
  have HBB := Lib.hid hB'
  have c0 := h0.c0.cell
  have c1 := h0.c1.cell
  have c2 := h0.c2.cell
  have hbw := h0.c0.lt
  have hbw0 := h.c0.lt
  have hglw := h0.lr.1
  have hglw0 := h.lr.1
  have hgrw := h0.lr.2
  have hgrw0 := h.lr.2
  obtain ⟨t00, u00⟩ := h0.l0 n (by omega) 0 (.int .i64 v0) (by rw [hv]; rfl)
  obtain ⟨t01, u01⟩ := h0.l0 n (by omega) 1 (.int .i64 v1) (by rw [hv]; rfl)
  obtain ⟨t02, u02⟩ := h0.l0 n (by omega) 2 (.int .u8 v2) (by rw [hv]; rfl)
  obtain ⟨t03, u03⟩ := h0.l0 n (by omega) 3 (.int .i64 v3) (by rw [hv]; rfl)
  obtain ⟨t04, u04⟩ := h0.l0 n (by omega) 4 (.int .i64 v4) (by rw [hv]; rfl)
  rw [Nat.add_zero] at t00 u00
  obtain ⟨t1, u1⟩ := h0.l1 n (by omega)
  obtain ⟨t2, u2⟩ := h0.l2 n (by omega)
  obtain ⟨t3, u3⟩ := h0.l3 n (by omega)
  obtain ⟨q0, p0⟩ := h0.r0 r (by omega)
  obtain ⟨q1, p1⟩ := h0.r1 r (by omega)
  obtain ⟨q2, p2⟩ := h0.r2 r (by omega)
  rw [hro] at t1
  rw [ha] at t2
  rw [hf] at t3
  obtain ⟨t5, u5⟩ := h0.l2 f (by omega)
  have ef : ((f : Int) == -1) = false := by simp
  have n1 := h.n1
  have n2 := h.n2
  have n4 := h.n4
  have n1' := Ne.symm n1
  have n2' := Ne.symm n2
  have n4' := Ne.symm n4
  have HP := Lib.hid hp
  have HGF := Lib.hid hBgf
  have HAr := Lib.hid h
  clear e h h0 hir hB hB' hp hBgf hBnf hro ha hf hv
  generalize A.rn r = rn at *
  go_enter Try.func61, Try.ntmps61
  go_wp2_with ((go_at_call 101; refine HI.out.mono ?_; rintro e w1 ⟨rfl, rfl⟩))
  go_quiet (fail)
  go_wp2_with (fail)
  go_region
  go_wp2_with (fail)
  refine (HG.out _ (by rw [HBB.out]; (repeat (first | (with_reducible refine ArAt.drew ?_) | (with_reducible refine ArAt.drewN ?_ _) | (with_reducible refine ArAt.alloc ?_ _))); exact HW.out _ (by (repeat (first | (with_reducible refine ArAt.drew ?_) | (with_reducible refine ArAt.drewN ?_ _) | (with_reducible refine ArAt.alloc ?_ _))); exact HAr.out))).mono ?_
  rintro e w2 ⟨rfl, hA2, o2⟩
  rw [HGF.out] at o2
  have o3 : Only (A.blk b) ((w.alloc (.cells #[.int .i64 0, .int .i64 0, .int .u8 0, .int .i64 0, .int .i64 0] 54)).alloc (.cells #[.int .i64 v0, .int .i64 v1, .int .u8 v2, .int .i64 v3, .int .i64 v4, .int .i64 r, .int .i64 (-1), .int .i64 f] 168)) w2 := Only.trans' (by repeat' (first | (with_reducible exact Only.refl _ _) | (with_reducible assumption) | (refine Only.of_none ?_; with_reducible assumption) | (with_reducible refine Only.drewN ?_ _) | (with_reducible refine Only.drew ?_) | (with_reducible refine Only.alloc ?_ _) | (with_reducible refine Only.setCell ?_ ?_ _) | (with_reducible refine Only.then0 ?_ (by with_reducible assumption)) | (with_reducible refine Only.thenN ?_ (by with_reducible assumption) ?_) | (with_reducible refine Only.trans ?_ (by with_reducible assumption)) | (refine .inl ?_; first | rfl | (simp; done) | (simp [Ar.blk]; done)) | (refine .inr ?_; first | omega | (simp; done) | (simp; omega) | exact Only.size (by with_reducible assumption) | (refine Nat.le_trans (Only.size (by with_reducible assumption)) ?_; simp; done)))) o2 (fun i _ h => h.elim .inl (fun h => .inr (.inr (.inr h))))
  have hgfw := HAr.out.gf_lt
  have d00 := o3.cell (b := w.heap.size + 1) (o := 0) (v := .int .i64 v0) (by simp [go_sem]) (by unfold Ar.blk; omega)
  have d01 := o3.cell (b := w.heap.size + 1) (o := 1) (v := .int .i64 v1) (by simp [go_sem]) (by unfold Ar.blk; omega)
  have d02 := o3.cell (b := w.heap.size + 1) (o := 2) (v := .int .u8 v2) (by simp [go_sem]) (by unfold Ar.blk; omega)
  have d03 := o3.cell (b := w.heap.size + 1) (o := 3) (v := .int .i64 v3) (by simp [go_sem]) (by unfold Ar.blk; omega)
  have d04 := o3.cell (b := w.heap.size + 1) (o := 4) (v := .int .i64 v4) (by simp [go_sem]) (by unfold Ar.blk; omega)
  have zb0 := ((Cell.new (w := w) (cs := #[.int .i64 0, .int .i64 0, .int .u8 0, .int .i64 0, .int .i64 0]) (t := 54) (o := 0) rfl).alloc _).only o3 (by show ¬ A.blk b w.heap.size; unfold Ar.blk; omega)
  have zc0 := zb0.cell
  have zf0 := zb0.free
  have zb1 := ((Cell.new (w := w) (cs := #[.int .i64 0, .int .i64 0, .int .u8 0, .int .i64 0, .int .i64 0]) (t := 54) (o := 1) rfl).alloc _).only o3 (by show ¬ A.blk b w.heap.size; unfold Ar.blk; omega)
  have zc1 := zb1.cell
  have zf1 := zb1.free
  have zb2 := ((Cell.new (w := w) (cs := #[.int .i64 0, .int .i64 0, .int .u8 0, .int .i64 0, .int .i64 0]) (t := 54) (o := 2) rfl).alloc _).only o3 (by show ¬ A.blk b w.heap.size; unfold Ar.blk; omega)
  have zc2 := zb2.cell
  have zf2 := zb2.free
  have zb3 := ((Cell.new (w := w) (cs := #[.int .i64 0, .int .i64 0, .int .u8 0, .int .i64 0, .int .i64 0]) (t := 54) (o := 3) rfl).alloc _).only o3 (by show ¬ A.blk b w.heap.size; unfold Ar.blk; omega)
  have zc3 := zb3.cell
  have zf3 := zb3.free
  have zb4 := ((Cell.new (w := w) (cs := #[.int .i64 0, .int .i64 0, .int .u8 0, .int .i64 0, .int .i64 0]) (t := 54) (o := 4) rfl).alloc _).only o3 (by show ¬ A.blk b w.heap.size; unfold Ar.blk; omega)
  have zc4 := zb4.cell
  have zf4 := zb4.free
  have rr0 : (((((w2.setCell ⟨w.heap.size, 0, none⟩ (.int .i64 v0)).setCell ⟨w.heap.size, 1, none⟩ (.int .i64 v1)).setCell ⟨w.heap.size, 2, none⟩ (.int .u8 v2)).setCell ⟨w.heap.size, 3, none⟩ (.int .i64 v3)).setCell ⟨w.heap.size, 4, none⟩ (.int .i64 v4)).cell? ⟨w.heap.size, 0, none⟩ = some (.int .i64 v0) := (show Cell (((((w2.setCell ⟨w.heap.size, 0, none⟩ (.int .i64 v0)).setCell ⟨w.heap.size, 1, none⟩ (.int .i64 v1)).setCell ⟨w.heap.size, 2, none⟩ (.int .u8 v2)).setCell ⟨w.heap.size, 3, none⟩ (.int .i64 v3)).setCell ⟨w.heap.size, 4, none⟩ (.int .i64 v4)) w.heap.size 0 (.int .i64 v0) from (((((zb0.set _).far (off_ne (by decide)) _).far (off_ne (by decide)) _).far (off_ne (by decide)) _).far (off_ne (by decide)) _)).cell
  have rr1 : (((((w2.setCell ⟨w.heap.size, 0, none⟩ (.int .i64 v0)).setCell ⟨w.heap.size, 1, none⟩ (.int .i64 v1)).setCell ⟨w.heap.size, 2, none⟩ (.int .u8 v2)).setCell ⟨w.heap.size, 3, none⟩ (.int .i64 v3)).setCell ⟨w.heap.size, 4, none⟩ (.int .i64 v4)).cell? ⟨w.heap.size, 1, none⟩ = some (.int .i64 v1) := (show Cell (((((w2.setCell ⟨w.heap.size, 0, none⟩ (.int .i64 v0)).setCell ⟨w.heap.size, 1, none⟩ (.int .i64 v1)).setCell ⟨w.heap.size, 2, none⟩ (.int .u8 v2)).setCell ⟨w.heap.size, 3, none⟩ (.int .i64 v3)).setCell ⟨w.heap.size, 4, none⟩ (.int .i64 v4)) w.heap.size 1 (.int .i64 v1) from (((((zb1.far (off_ne (by decide)) _).set _).far (off_ne (by decide)) _).far (off_ne (by decide)) _).far (off_ne (by decide)) _)).cell
  have rr2 : (((((w2.setCell ⟨w.heap.size, 0, none⟩ (.int .i64 v0)).setCell ⟨w.heap.size, 1, none⟩ (.int .i64 v1)).setCell ⟨w.heap.size, 2, none⟩ (.int .u8 v2)).setCell ⟨w.heap.size, 3, none⟩ (.int .i64 v3)).setCell ⟨w.heap.size, 4, none⟩ (.int .i64 v4)).cell? ⟨w.heap.size, 2, none⟩ = some (.int .u8 v2) := (show Cell (((((w2.setCell ⟨w.heap.size, 0, none⟩ (.int .i64 v0)).setCell ⟨w.heap.size, 1, none⟩ (.int .i64 v1)).setCell ⟨w.heap.size, 2, none⟩ (.int .u8 v2)).setCell ⟨w.heap.size, 3, none⟩ (.int .i64 v3)).setCell ⟨w.heap.size, 4, none⟩ (.int .i64 v4)) w.heap.size 2 (.int .u8 v2) from (((((zb2.far (off_ne (by decide)) _).far (off_ne (by decide)) _).set _).far (off_ne (by decide)) _).far (off_ne (by decide)) _)).cell
  have rr3 : (((((w2.setCell ⟨w.heap.size, 0, none⟩ (.int .i64 v0)).setCell ⟨w.heap.size, 1, none⟩ (.int .i64 v1)).setCell ⟨w.heap.size, 2, none⟩ (.int .u8 v2)).setCell ⟨w.heap.size, 3, none⟩ (.int .i64 v3)).setCell ⟨w.heap.size, 4, none⟩ (.int .i64 v4)).cell? ⟨w.heap.size, 3, none⟩ = some (.int .i64 v3) := (show Cell (((((w2.setCell ⟨w.heap.size, 0, none⟩ (.int .i64 v0)).setCell ⟨w.heap.size, 1, none⟩ (.int .i64 v1)).setCell ⟨w.heap.size, 2, none⟩ (.int .u8 v2)).setCell ⟨w.heap.size, 3, none⟩ (.int .i64 v3)).setCell ⟨w.heap.size, 4, none⟩ (.int .i64 v4)) w.heap.size 3 (.int .i64 v3) from (((((zb3.far (off_ne (by decide)) _).far (off_ne (by decide)) _).far (off_ne (by decide)) _).set _).far (off_ne (by decide)) _)).cell
  have rr4 : (((((w2.setCell ⟨w.heap.size, 0, none⟩ (.int .i64 v0)).setCell ⟨w.heap.size, 1, none⟩ (.int .i64 v1)).setCell ⟨w.heap.size, 2, none⟩ (.int .u8 v2)).setCell ⟨w.heap.size, 3, none⟩ (.int .i64 v3)).setCell ⟨w.heap.size, 4, none⟩ (.int .i64 v4)).cell? ⟨w.heap.size, 4, none⟩ = some (.int .i64 v4) := (show Cell (((((w2.setCell ⟨w.heap.size, 0, none⟩ (.int .i64 v0)).setCell ⟨w.heap.size, 1, none⟩ (.int .i64 v1)).setCell ⟨w.heap.size, 2, none⟩ (.int .u8 v2)).setCell ⟨w.heap.size, 3, none⟩ (.int .i64 v3)).setCell ⟨w.heap.size, 4, none⟩ (.int .i64 v4)) w.heap.size 4 (.int .i64 v4) from (((((zb4.far (off_ne (by decide)) _).far (off_ne (by decide)) _).far (off_ne (by decide)) _).far (off_ne (by decide)) _).set _)).cell
  have OZ := Lib.hid (show Only (· = w.heap.size) w2 (((((w2.setCell ⟨w.heap.size, 0, none⟩ (.int .i64 v0)).setCell ⟨w.heap.size, 1, none⟩ (.int .i64 v1)).setCell ⟨w.heap.size, 2, none⟩ (.int .u8 v2)).setCell ⟨w.heap.size, 3, none⟩ (.int .i64 v3)).setCell ⟨w.heap.size, 4, none⟩ (.int .i64 v4)) from (((((Only.refl (· = w.heap.size) w2).setCell (.inl rfl) _).setCell (.inl rfl) _).setCell (.inl rfl) _).setCell (.inl rfl) _).setCell (.inl rfl) _)
  have HA2 := Lib.hid hA2
  have O3 := Lib.hid o3
  clear hA2 o2 zb0 zb1 zb2 zb3 zb4 o3
  go_wp2
  refine bodyPost_ret (by simp [results, Try.results61, go_sem, rr0, rr1, rr2, rr3, rr4]; try rfl) rfl ?_
  refine ⟨rfl, by rw [HP.out]; exact ArAt.only HA2.out OZ.out (by show ¬ (b = w.heap.size); omega) (by rw [show (B.give n).gl = A.gl by rw [HBB.out]; rfl]; show ¬ (A.gl = w.heap.size); omega) (by rw [show (B.give n).gr = A.gr by rw [HBB.out]; rfl]; show ¬ (A.gr = w.heap.size); omega) (by rw [show (B.give n).gf = A.gf by rw [HBB.out]; rfl]; show ¬ (A.gf = w.heap.size); omega), ?_⟩
  exact ((((Only.refl _ w).alloc _).alloc _).trans O3.out).trans' OZ.out (fun i hi e => by omega)

set_option maxHeartbeats 4000000 in
set_option maxRecDepth 100000 in
theorem s_take_sn (w : World) (b : Nat) (A : Ar) (n r : Nat) (v0 v1 v2 v3 v4 : Int) (h : ArAt w b A) (hn : n < A.room) (hro : A.ro n = (r : Int)) (hr : r < A.nr) (hv : A.th n = .agg #[.int .i64 v0, .int .i64 v1, .int .u8 v2, .int .i64 v3, .int .i64 v4]) (hc : 1 ≤ A.rn r ∧ A.rn r ≤ 65536) (hnf : A.nf < A.room) (a : Nat) (ha : A.ah n = (a : Int)) (har : a < A.room) (han : a ≠ n) (hf : A.fa n = -1) :
    Calls Try.prog 61 #[.pointer (some ⟨b, 0, none⟩), .int .i64 n] w fun e w' => e = .returned (.tuple #[.agg #[.int .i64 v0, .int .i64 v1, .int .u8 v2, .int .i64 v3, .int .i64 v4], .bool true]) ∧ ArAt w' b (A.take n (.agg #[.int .i64 0, .int .i64 0, .int .u8 0, .int .i64 0, .int .i64 0])) ∧ Only (A.blk b) w w' := by
  have hir : A.hasN n := ⟨⟨by omega, by omega⟩, by rw [Int.toNat_natCast, hro]; omega⟩
  have h0 := h.alloc (.cells #[.int .i64 0, .int .i64 0, .int .u8 0, .int .i64 0, .int .i64 0] 54)
  have HI := Lib.hid (s_has _ b A n h0)
  have e : decide (A.hasN n) = true := by simp [hir]
  rw [e] at HI
  have hs := h.small
  have hp : A.take n (.agg #[.int .i64 0, .int .i64 0, .int .u8 0, .int .i64 0, .int .i64 0]) = ((A.cut n r).wipe n (.agg #[.int .i64 0, .int .i64 0, .int .u8 0, .int .i64 0, .int .i64 0])).give n := by unfold Ar.take; rw [hro]; rfl
  obtain ⟨B, hB⟩ : ∃ B : Ar, B = (A.cut n r).wipe n (.agg #[.int .i64 0, .int .i64 0, .int .u8 0, .int .i64 0, .int .i64 0]) := ⟨_, rfl⟩
  rw [← hB] at hp
  have hBnf : B.nf < B.room := by rw [hB]; exact hnf
  have hBgf : B.gf = A.gf := by rw [hB]; rfl
  have HG := Lib.hid (fun W (hW : ArAt W b B) => s_give W b B n hW hBnf)
  have HW := Lib.hid (fun W (hW : ArAt W b A) => (((((((hW.set_fa (i := a) (by omega) (A.fa n)).set_rl (i := r) (by simp only; omega) (A.ah n)).set_rn (i := r) (by simp only; omega) (A.rn r - 1)).set_th (i := n) (by simp only; omega) (.int .i64 0) (.int .i64 0) (.int .u8 0) (.int .i64 0) (.int .i64 0)).set_ro (i := n) (by simp only; omega) (-1)).set_ah (i := n) (by simp only; omega) 0).set_fa (i := n) (by simp only; omega) 0))
  have hB' : B = { A with rf := A.rf, fa := upd (upd A.fa a (A.fa n)) n 0, rl := upd A.rl r (A.ah n), ah := upd (A.ah) n 0, rn := upd A.rn r (A.rn r - 1), th := upd A.th n (.agg #[.int .i64 0, .int .i64 0, .int .u8 0, .int .i64 0, .int .i64 0]), ro := upd A.ro n (-1) } := by
    rw [hB]; unfold Ar.cut Ar.wipe; simp [ha, hf]
  simp only [ha, hf, put5] at HW hB'
  have HBB := Lib.hid hB'
  have c0 := h0.c0.cell
  have c1 := h0.c1.cell
  have c2 := h0.c2.cell
  have hbw := h0.c0.lt
  have hbw0 := h.c0.lt
  have hglw := h0.lr.1
  have hglw0 := h.lr.1
  have hgrw := h0.lr.2
  have hgrw0 := h.lr.2
  obtain ⟨t00, u00⟩ := h0.l0 n (by omega) 0 (.int .i64 v0) (by rw [hv]; rfl)
  obtain ⟨t01, u01⟩ := h0.l0 n (by omega) 1 (.int .i64 v1) (by rw [hv]; rfl)
  obtain ⟨t02, u02⟩ := h0.l0 n (by omega) 2 (.int .u8 v2) (by rw [hv]; rfl)
  obtain ⟨t03, u03⟩ := h0.l0 n (by omega) 3 (.int .i64 v3) (by rw [hv]; rfl)
  obtain ⟨t04, u04⟩ := h0.l0 n (by omega) 4 (.int .i64 v4) (by rw [hv]; rfl)
  rw [Nat.add_zero] at t00 u00
  obtain ⟨t1, u1⟩ := h0.l1 n (by omega)
  obtain ⟨t2, u2⟩ := h0.l2 n (by omega)
  obtain ⟨t3, u3⟩ := h0.l3 n (by omega)
  obtain ⟨q0, p0⟩ := h0.r0 r (by omega)
  obtain ⟨q1, p1⟩ := h0.r1 r (by omega)
  obtain ⟨q2, p2⟩ := h0.r2 r (by omega)
  rw [hro] at t1
  rw [ha] at t2
  rw [hf] at t3
  obtain ⟨t4, u4⟩ := h0.l3 a (by omega)
  have ea : ((a : Int) == -1) = false := by simp
  have n1 := h.n1
  have n2 := h.n2
  have n4 := h.n4
  have n1' := Ne.symm n1
  have n2' := Ne.symm n2
  have n4' := Ne.symm n4
  have HP := Lib.hid hp
  have HGF := Lib.hid hBgf
  have HAr := Lib.hid h
  clear e h h0 hir hB hB' hp hBgf hBnf hro ha hf hv
  generalize A.rn r = rn at *
  go_enter Try.func61, Try.ntmps61
  go_wp2_with ((go_at_call 101; refine HI.out.mono ?_; rintro e w1 ⟨rfl, rfl⟩))
  go_quiet (fail)
  go_wp2_with (fail)
  go_region
  go_wp2_with (fail)
  refine (HG.out _ (by rw [HBB.out]; (repeat (first | (with_reducible refine ArAt.drew ?_) | (with_reducible refine ArAt.drewN ?_ _) | (with_reducible refine ArAt.alloc ?_ _))); exact HW.out _ (by (repeat (first | (with_reducible refine ArAt.drew ?_) | (with_reducible refine ArAt.drewN ?_ _) | (with_reducible refine ArAt.alloc ?_ _))); exact HAr.out))).mono ?_
  rintro e w2 ⟨rfl, hA2, o2⟩
  rw [HGF.out] at o2
  have o3 : Only (A.blk b) ((w.alloc (.cells #[.int .i64 0, .int .i64 0, .int .u8 0, .int .i64 0, .int .i64 0] 54)).alloc (.cells #[.int .i64 v0, .int .i64 v1, .int .u8 v2, .int .i64 v3, .int .i64 v4, .int .i64 r, .int .i64 a, .int .i64 (-1)] 168)) w2 := Only.trans' (by repeat' (first | (with_reducible exact Only.refl _ _) | (with_reducible assumption) | (refine Only.of_none ?_; with_reducible assumption) | (with_reducible refine Only.drewN ?_ _) | (with_reducible refine Only.drew ?_) | (with_reducible refine Only.alloc ?_ _) | (with_reducible refine Only.setCell ?_ ?_ _) | (with_reducible refine Only.then0 ?_ (by with_reducible assumption)) | (with_reducible refine Only.thenN ?_ (by with_reducible assumption) ?_) | (with_reducible refine Only.trans ?_ (by with_reducible assumption)) | (refine .inl ?_; first | rfl | (simp; done) | (simp [Ar.blk]; done)) | (refine .inr ?_; first | omega | (simp; done) | (simp; omega) | exact Only.size (by with_reducible assumption) | (refine Nat.le_trans (Only.size (by with_reducible assumption)) ?_; simp; done)))) o2 (fun i _ h => h.elim .inl (fun h => .inr (.inr (.inr h))))
  have hgfw := HAr.out.gf_lt
  have d00 := o3.cell (b := w.heap.size + 1) (o := 0) (v := .int .i64 v0) (by simp [go_sem]) (by unfold Ar.blk; omega)
  have d01 := o3.cell (b := w.heap.size + 1) (o := 1) (v := .int .i64 v1) (by simp [go_sem]) (by unfold Ar.blk; omega)
  have d02 := o3.cell (b := w.heap.size + 1) (o := 2) (v := .int .u8 v2) (by simp [go_sem]) (by unfold Ar.blk; omega)
  have d03 := o3.cell (b := w.heap.size + 1) (o := 3) (v := .int .i64 v3) (by simp [go_sem]) (by unfold Ar.blk; omega)
  have d04 := o3.cell (b := w.heap.size + 1) (o := 4) (v := .int .i64 v4) (by simp [go_sem]) (by unfold Ar.blk; omega)
  have zb0 := ((Cell.new (w := w) (cs := #[.int .i64 0, .int .i64 0, .int .u8 0, .int .i64 0, .int .i64 0]) (t := 54) (o := 0) rfl).alloc _).only o3 (by show ¬ A.blk b w.heap.size; unfold Ar.blk; omega)
  have zc0 := zb0.cell
  have zf0 := zb0.free
  have zb1 := ((Cell.new (w := w) (cs := #[.int .i64 0, .int .i64 0, .int .u8 0, .int .i64 0, .int .i64 0]) (t := 54) (o := 1) rfl).alloc _).only o3 (by show ¬ A.blk b w.heap.size; unfold Ar.blk; omega)
  have zc1 := zb1.cell
  have zf1 := zb1.free
  have zb2 := ((Cell.new (w := w) (cs := #[.int .i64 0, .int .i64 0, .int .u8 0, .int .i64 0, .int .i64 0]) (t := 54) (o := 2) rfl).alloc _).only o3 (by show ¬ A.blk b w.heap.size; unfold Ar.blk; omega)
  have zc2 := zb2.cell
  have zf2 := zb2.free
  have zb3 := ((Cell.new (w := w) (cs := #[.int .i64 0, .int .i64 0, .int .u8 0, .int .i64 0, .int .i64 0]) (t := 54) (o := 3) rfl).alloc _).only o3 (by show ¬ A.blk b w.heap.size; unfold Ar.blk; omega)
  have zc3 := zb3.cell
  have zf3 := zb3.free
  have zb4 := ((Cell.new (w := w) (cs := #[.int .i64 0, .int .i64 0, .int .u8 0, .int .i64 0, .int .i64 0]) (t := 54) (o := 4) rfl).alloc _).only o3 (by show ¬ A.blk b w.heap.size; unfold Ar.blk; omega)
  have zc4 := zb4.cell
  have zf4 := zb4.free
  have rr0 : (((((w2.setCell ⟨w.heap.size, 0, none⟩ (.int .i64 v0)).setCell ⟨w.heap.size, 1, none⟩ (.int .i64 v1)).setCell ⟨w.heap.size, 2, none⟩ (.int .u8 v2)).setCell ⟨w.heap.size, 3, none⟩ (.int .i64 v3)).setCell ⟨w.heap.size, 4, none⟩ (.int .i64 v4)).cell? ⟨w.heap.size, 0, none⟩ = some (.int .i64 v0) := (show Cell (((((w2.setCell ⟨w.heap.size, 0, none⟩ (.int .i64 v0)).setCell ⟨w.heap.size, 1, none⟩ (.int .i64 v1)).setCell ⟨w.heap.size, 2, none⟩ (.int .u8 v2)).setCell ⟨w.heap.size, 3, none⟩ (.int .i64 v3)).setCell ⟨w.heap.size, 4, none⟩ (.int .i64 v4)) w.heap.size 0 (.int .i64 v0) from (((((zb0.set _).far (off_ne (by decide)) _).far (off_ne (by decide)) _).far (off_ne (by decide)) _).far (off_ne (by decide)) _)).cell
  have rr1 : (((((w2.setCell ⟨w.heap.size, 0, none⟩ (.int .i64 v0)).setCell ⟨w.heap.size, 1, none⟩ (.int .i64 v1)).setCell ⟨w.heap.size, 2, none⟩ (.int .u8 v2)).setCell ⟨w.heap.size, 3, none⟩ (.int .i64 v3)).setCell ⟨w.heap.size, 4, none⟩ (.int .i64 v4)).cell? ⟨w.heap.size, 1, none⟩ = some (.int .i64 v1) := (show Cell (((((w2.setCell ⟨w.heap.size, 0, none⟩ (.int .i64 v0)).setCell ⟨w.heap.size, 1, none⟩ (.int .i64 v1)).setCell ⟨w.heap.size, 2, none⟩ (.int .u8 v2)).setCell ⟨w.heap.size, 3, none⟩ (.int .i64 v3)).setCell ⟨w.heap.size, 4, none⟩ (.int .i64 v4)) w.heap.size 1 (.int .i64 v1) from (((((zb1.far (off_ne (by decide)) _).set _).far (off_ne (by decide)) _).far (off_ne (by decide)) _).far (off_ne (by decide)) _)).cell
  have rr2 : (((((w2.setCell ⟨w.heap.size, 0, none⟩ (.int .i64 v0)).setCell ⟨w.heap.size, 1, none⟩ (.int .i64 v1)).setCell ⟨w.heap.size, 2, none⟩ (.int .u8 v2)).setCell ⟨w.heap.size, 3, none⟩ (.int .i64 v3)).setCell ⟨w.heap.size, 4, none⟩ (.int .i64 v4)).cell? ⟨w.heap.size, 2, none⟩ = some (.int .u8 v2) := (show Cell (((((w2.setCell ⟨w.heap.size, 0, none⟩ (.int .i64 v0)).setCell ⟨w.heap.size, 1, none⟩ (.int .i64 v1)).setCell ⟨w.heap.size, 2, none⟩ (.int .u8 v2)).setCell ⟨w.heap.size, 3, none⟩ (.int .i64 v3)).setCell ⟨w.heap.size, 4, none⟩ (.int .i64 v4)) w.heap.size 2 (.int .u8 v2) from (((((zb2.far (off_ne (by decide)) _).far (off_ne (by decide)) _).set _).far (off_ne (by decide)) _).far (off_ne (by decide)) _)).cell
  have rr3 : (((((w2.setCell ⟨w.heap.size, 0, none⟩ (.int .i64 v0)).setCell ⟨w.heap.size, 1, none⟩ (.int .i64 v1)).setCell ⟨w.heap.size, 2, none⟩ (.int .u8 v2)).setCell ⟨w.heap.size, 3, none⟩ (.int .i64 v3)).setCell ⟨w.heap.size, 4, none⟩ (.int .i64 v4)).cell? ⟨w.heap.size, 3, none⟩ = some (.int .i64 v3) := (show Cell (((((w2.setCell ⟨w.heap.size, 0, none⟩ (.int .i64 v0)).setCell ⟨w.heap.size, 1, none⟩ (.int .i64 v1)).setCell ⟨w.heap.size, 2, none⟩ (.int .u8 v2)).setCell ⟨w.heap.size, 3, none⟩ (.int .i64 v3)).setCell ⟨w.heap.size, 4, none⟩ (.int .i64 v4)) w.heap.size 3 (.int .i64 v3) from (((((zb3.far (off_ne (by decide)) _).far (off_ne (by decide)) _).far (off_ne (by decide)) _).set _).far (off_ne (by decide)) _)).cell
  have rr4 : (((((w2.setCell ⟨w.heap.size, 0, none⟩ (.int .i64 v0)).setCell ⟨w.heap.size, 1, none⟩ (.int .i64 v1)).setCell ⟨w.heap.size, 2, none⟩ (.int .u8 v2)).setCell ⟨w.heap.size, 3, none⟩ (.int .i64 v3)).setCell ⟨w.heap.size, 4, none⟩ (.int .i64 v4)).cell? ⟨w.heap.size, 4, none⟩ = some (.int .i64 v4) := (show Cell (((((w2.setCell ⟨w.heap.size, 0, none⟩ (.int .i64 v0)).setCell ⟨w.heap.size, 1, none⟩ (.int .i64 v1)).setCell ⟨w.heap.size, 2, none⟩ (.int .u8 v2)).setCell ⟨w.heap.size, 3, none⟩ (.int .i64 v3)).setCell ⟨w.heap.size, 4, none⟩ (.int .i64 v4)) w.heap.size 4 (.int .i64 v4) from (((((zb4.far (off_ne (by decide)) _).far (off_ne (by decide)) _).far (off_ne (by decide)) _).far (off_ne (by decide)) _).set _)).cell
  have OZ := Lib.hid (show Only (· = w.heap.size) w2 (((((w2.setCell ⟨w.heap.size, 0, none⟩ (.int .i64 v0)).setCell ⟨w.heap.size, 1, none⟩ (.int .i64 v1)).setCell ⟨w.heap.size, 2, none⟩ (.int .u8 v2)).setCell ⟨w.heap.size, 3, none⟩ (.int .i64 v3)).setCell ⟨w.heap.size, 4, none⟩ (.int .i64 v4)) from (((((Only.refl (· = w.heap.size) w2).setCell (.inl rfl) _).setCell (.inl rfl) _).setCell (.inl rfl) _).setCell (.inl rfl) _).setCell (.inl rfl) _)
  have HA2 := Lib.hid hA2
  have O3 := Lib.hid o3
  clear hA2 o2 zb0 zb1 zb2 zb3 zb4 o3
  go_wp2
  refine bodyPost_ret (by simp [results, Try.results61, go_sem, rr0, rr1, rr2, rr3, rr4]; try rfl) rfl ?_
  refine ⟨rfl, by rw [HP.out]; exact ArAt.only HA2.out OZ.out (by show ¬ (b = w.heap.size); omega) (by rw [show (B.give n).gl = A.gl by rw [HBB.out]; rfl]; show ¬ (A.gl = w.heap.size); omega) (by rw [show (B.give n).gr = A.gr by rw [HBB.out]; rfl]; show ¬ (A.gr = w.heap.size); omega) (by rw [show (B.give n).gf = A.gf by rw [HBB.out]; rfl]; show ¬ (A.gf = w.heap.size); omega), ?_⟩
  exact ((((Only.refl _ w).alloc _).alloc _).trans O3.out).trans' OZ.out (fun i hi e => by omega)

set_option maxHeartbeats 4000000 in
set_option maxRecDepth 100000 in
theorem s_take_ss (w : World) (b : Nat) (A : Ar) (n r : Nat) (v0 v1 v2 v3 v4 : Int) (h : ArAt w b A) (hn : n < A.room) (hro : A.ro n = (r : Int)) (hr : r < A.nr) (hv : A.th n = .agg #[.int .i64 v0, .int .i64 v1, .int .u8 v2, .int .i64 v3, .int .i64 v4]) (hc : 1 ≤ A.rn r ∧ A.rn r ≤ 65536) (hnf : A.nf < A.room) (a : Nat) (ha : A.ah n = (a : Int)) (har : a < A.room) (han : a ≠ n) (f : Nat) (hf : A.fa n = (f : Int)) (hfr : f < A.room) (hfn : f ≠ n) (haf : a ≠ f) :
    Calls Try.prog 61 #[.pointer (some ⟨b, 0, none⟩), .int .i64 n] w fun e w' => e = .returned (.tuple #[.agg #[.int .i64 v0, .int .i64 v1, .int .u8 v2, .int .i64 v3, .int .i64 v4], .bool true]) ∧ ArAt w' b (A.take n (.agg #[.int .i64 0, .int .i64 0, .int .u8 0, .int .i64 0, .int .i64 0])) ∧ Only (A.blk b) w w' := by
  have hir : A.hasN n := ⟨⟨by omega, by omega⟩, by rw [Int.toNat_natCast, hro]; omega⟩
  have h0 := h.alloc (.cells #[.int .i64 0, .int .i64 0, .int .u8 0, .int .i64 0, .int .i64 0] 54)
  have HI := Lib.hid (s_has _ b A n h0)
  have e : decide (A.hasN n) = true := by simp [hir]
  rw [e] at HI
  have hs := h.small
  have hp : A.take n (.agg #[.int .i64 0, .int .i64 0, .int .u8 0, .int .i64 0, .int .i64 0]) = ((A.cut n r).wipe n (.agg #[.int .i64 0, .int .i64 0, .int .u8 0, .int .i64 0, .int .i64 0])).give n := by unfold Ar.take; rw [hro]; rfl
  obtain ⟨B, hB⟩ : ∃ B : Ar, B = (A.cut n r).wipe n (.agg #[.int .i64 0, .int .i64 0, .int .u8 0, .int .i64 0, .int .i64 0]) := ⟨_, rfl⟩
  rw [← hB] at hp
  have hBnf : B.nf < B.room := by rw [hB]; exact hnf
  have hBgf : B.gf = A.gf := by rw [hB]; rfl
  have HG := Lib.hid (fun W (hW : ArAt W b B) => s_give W b B n hW hBnf)
  have HW := Lib.hid (fun W (hW : ArAt W b A) => (((((((hW.set_fa (i := a) (by omega) (A.fa n)).set_ah (i := f) (by simp only; omega) (A.ah n)).set_rn (i := r) (by simp only; omega) (A.rn r - 1)).set_th (i := n) (by simp only; omega) (.int .i64 0) (.int .i64 0) (.int .u8 0) (.int .i64 0) (.int .i64 0)).set_ro (i := n) (by simp only; omega) (-1)).set_ah (i := n) (by simp only; omega) 0).set_fa (i := n) (by simp only; omega) 0))
  have hB' : B = { A with rf := A.rf, fa := upd (upd A.fa a (A.fa n)) n 0, rl := A.rl, ah := upd (upd A.ah f (A.ah n)) n 0, rn := upd A.rn r (A.rn r - 1), th := upd A.th n (.agg #[.int .i64 0, .int .i64 0, .int .u8 0, .int .i64 0, .int .i64 0]), ro := upd A.ro n (-1) } := by
    rw [hB]; unfold Ar.cut Ar.wipe; simp [ha, hf]
  simp only [ha, hf, put5] at HW hB'
  have HBB := Lib.hid hB'
  have c0 := h0.c0.cell
  have c1 := h0.c1.cell
  have c2 := h0.c2.cell
  have hbw := h0.c0.lt
  have hbw0 := h.c0.lt
  have hglw := h0.lr.1
  have hglw0 := h.lr.1
  have hgrw := h0.lr.2
  have hgrw0 := h.lr.2
  obtain ⟨t00, u00⟩ := h0.l0 n (by omega) 0 (.int .i64 v0) (by rw [hv]; rfl)
  obtain ⟨t01, u01⟩ := h0.l0 n (by omega) 1 (.int .i64 v1) (by rw [hv]; rfl)
  obtain ⟨t02, u02⟩ := h0.l0 n (by omega) 2 (.int .u8 v2) (by rw [hv]; rfl)
  obtain ⟨t03, u03⟩ := h0.l0 n (by omega) 3 (.int .i64 v3) (by rw [hv]; rfl)
  obtain ⟨t04, u04⟩ := h0.l0 n (by omega) 4 (.int .i64 v4) (by rw [hv]; rfl)
  rw [Nat.add_zero] at t00 u00
  obtain ⟨t1, u1⟩ := h0.l1 n (by omega)
  obtain ⟨t2, u2⟩ := h0.l2 n (by omega)
  obtain ⟨t3, u3⟩ := h0.l3 n (by omega)
  obtain ⟨q0, p0⟩ := h0.r0 r (by omega)
  obtain ⟨q1, p1⟩ := h0.r1 r (by omega)
  obtain ⟨q2, p2⟩ := h0.r2 r (by omega)
  rw [hro] at t1
  rw [ha] at t2
  rw [hf] at t3
  obtain ⟨t4, u4⟩ := h0.l3 a (by omega)
  have ea : ((a : Int) == -1) = false := by simp
  obtain ⟨t5, u5⟩ := h0.l2 f (by omega)
  have ef : ((f : Int) == -1) = false := by simp
  have n1 := h.n1
  have n2 := h.n2
  have n4 := h.n4
  have n1' := Ne.symm n1
  have n2' := Ne.symm n2
  have n4' := Ne.symm n4
  have HP := Lib.hid hp
  have HGF := Lib.hid hBgf
  have HAr := Lib.hid h
  clear e h h0 hir hB hB' hp hBgf hBnf hro ha hf hv
  generalize A.rn r = rn at *
  go_enter Try.func61, Try.ntmps61
  go_wp2_with ((go_at_call 101; refine HI.out.mono ?_; rintro e w1 ⟨rfl, rfl⟩))
  go_quiet (fail)
  go_wp2_with (fail)
  go_region
  go_wp2_with (fail)
  go_region
  go_wp2_with (fail)
  refine (HG.out _ (by rw [HBB.out]; (repeat (first | (with_reducible refine ArAt.drew ?_) | (with_reducible refine ArAt.drewN ?_ _) | (with_reducible refine ArAt.alloc ?_ _))); exact HW.out _ (by (repeat (first | (with_reducible refine ArAt.drew ?_) | (with_reducible refine ArAt.drewN ?_ _) | (with_reducible refine ArAt.alloc ?_ _))); exact HAr.out))).mono ?_
  rintro e w2 ⟨rfl, hA2, o2⟩
  rw [HGF.out] at o2
  have o3 : Only (A.blk b) ((w.alloc (.cells #[.int .i64 0, .int .i64 0, .int .u8 0, .int .i64 0, .int .i64 0] 54)).alloc (.cells #[.int .i64 v0, .int .i64 v1, .int .u8 v2, .int .i64 v3, .int .i64 v4, .int .i64 r, .int .i64 a, .int .i64 f] 168)) w2 := Only.trans' (by repeat' (first | (with_reducible exact Only.refl _ _) | (with_reducible assumption) | (refine Only.of_none ?_; with_reducible assumption) | (with_reducible refine Only.drewN ?_ _) | (with_reducible refine Only.drew ?_) | (with_reducible refine Only.alloc ?_ _) | (with_reducible refine Only.setCell ?_ ?_ _) | (with_reducible refine Only.then0 ?_ (by with_reducible assumption)) | (with_reducible refine Only.thenN ?_ (by with_reducible assumption) ?_) | (with_reducible refine Only.trans ?_ (by with_reducible assumption)) | (refine .inl ?_; first | rfl | (simp; done) | (simp [Ar.blk]; done)) | (refine .inr ?_; first | omega | (simp; done) | (simp; omega) | exact Only.size (by with_reducible assumption) | (refine Nat.le_trans (Only.size (by with_reducible assumption)) ?_; simp; done)))) o2 (fun i _ h => h.elim .inl (fun h => .inr (.inr (.inr h))))
  have hgfw := HAr.out.gf_lt
  have d00 := o3.cell (b := w.heap.size + 1) (o := 0) (v := .int .i64 v0) (by simp [go_sem]) (by unfold Ar.blk; omega)
  have d01 := o3.cell (b := w.heap.size + 1) (o := 1) (v := .int .i64 v1) (by simp [go_sem]) (by unfold Ar.blk; omega)
  have d02 := o3.cell (b := w.heap.size + 1) (o := 2) (v := .int .u8 v2) (by simp [go_sem]) (by unfold Ar.blk; omega)
  have d03 := o3.cell (b := w.heap.size + 1) (o := 3) (v := .int .i64 v3) (by simp [go_sem]) (by unfold Ar.blk; omega)
  have d04 := o3.cell (b := w.heap.size + 1) (o := 4) (v := .int .i64 v4) (by simp [go_sem]) (by unfold Ar.blk; omega)
  have zb0 := ((Cell.new (w := w) (cs := #[.int .i64 0, .int .i64 0, .int .u8 0, .int .i64 0, .int .i64 0]) (t := 54) (o := 0) rfl).alloc _).only o3 (by show ¬ A.blk b w.heap.size; unfold Ar.blk; omega)
  have zc0 := zb0.cell
  have zf0 := zb0.free
  have zb1 := ((Cell.new (w := w) (cs := #[.int .i64 0, .int .i64 0, .int .u8 0, .int .i64 0, .int .i64 0]) (t := 54) (o := 1) rfl).alloc _).only o3 (by show ¬ A.blk b w.heap.size; unfold Ar.blk; omega)
  have zc1 := zb1.cell
  have zf1 := zb1.free
  have zb2 := ((Cell.new (w := w) (cs := #[.int .i64 0, .int .i64 0, .int .u8 0, .int .i64 0, .int .i64 0]) (t := 54) (o := 2) rfl).alloc _).only o3 (by show ¬ A.blk b w.heap.size; unfold Ar.blk; omega)
  have zc2 := zb2.cell
  have zf2 := zb2.free
  have zb3 := ((Cell.new (w := w) (cs := #[.int .i64 0, .int .i64 0, .int .u8 0, .int .i64 0, .int .i64 0]) (t := 54) (o := 3) rfl).alloc _).only o3 (by show ¬ A.blk b w.heap.size; unfold Ar.blk; omega)
  have zc3 := zb3.cell
  have zf3 := zb3.free
  have zb4 := ((Cell.new (w := w) (cs := #[.int .i64 0, .int .i64 0, .int .u8 0, .int .i64 0, .int .i64 0]) (t := 54) (o := 4) rfl).alloc _).only o3 (by show ¬ A.blk b w.heap.size; unfold Ar.blk; omega)
  have zc4 := zb4.cell
  have zf4 := zb4.free
  have rr0 : (((((w2.setCell ⟨w.heap.size, 0, none⟩ (.int .i64 v0)).setCell ⟨w.heap.size, 1, none⟩ (.int .i64 v1)).setCell ⟨w.heap.size, 2, none⟩ (.int .u8 v2)).setCell ⟨w.heap.size, 3, none⟩ (.int .i64 v3)).setCell ⟨w.heap.size, 4, none⟩ (.int .i64 v4)).cell? ⟨w.heap.size, 0, none⟩ = some (.int .i64 v0) := (show Cell (((((w2.setCell ⟨w.heap.size, 0, none⟩ (.int .i64 v0)).setCell ⟨w.heap.size, 1, none⟩ (.int .i64 v1)).setCell ⟨w.heap.size, 2, none⟩ (.int .u8 v2)).setCell ⟨w.heap.size, 3, none⟩ (.int .i64 v3)).setCell ⟨w.heap.size, 4, none⟩ (.int .i64 v4)) w.heap.size 0 (.int .i64 v0) from (((((zb0.set _).far (off_ne (by decide)) _).far (off_ne (by decide)) _).far (off_ne (by decide)) _).far (off_ne (by decide)) _)).cell
  have rr1 : (((((w2.setCell ⟨w.heap.size, 0, none⟩ (.int .i64 v0)).setCell ⟨w.heap.size, 1, none⟩ (.int .i64 v1)).setCell ⟨w.heap.size, 2, none⟩ (.int .u8 v2)).setCell ⟨w.heap.size, 3, none⟩ (.int .i64 v3)).setCell ⟨w.heap.size, 4, none⟩ (.int .i64 v4)).cell? ⟨w.heap.size, 1, none⟩ = some (.int .i64 v1) := (show Cell (((((w2.setCell ⟨w.heap.size, 0, none⟩ (.int .i64 v0)).setCell ⟨w.heap.size, 1, none⟩ (.int .i64 v1)).setCell ⟨w.heap.size, 2, none⟩ (.int .u8 v2)).setCell ⟨w.heap.size, 3, none⟩ (.int .i64 v3)).setCell ⟨w.heap.size, 4, none⟩ (.int .i64 v4)) w.heap.size 1 (.int .i64 v1) from (((((zb1.far (off_ne (by decide)) _).set _).far (off_ne (by decide)) _).far (off_ne (by decide)) _).far (off_ne (by decide)) _)).cell
  have rr2 : (((((w2.setCell ⟨w.heap.size, 0, none⟩ (.int .i64 v0)).setCell ⟨w.heap.size, 1, none⟩ (.int .i64 v1)).setCell ⟨w.heap.size, 2, none⟩ (.int .u8 v2)).setCell ⟨w.heap.size, 3, none⟩ (.int .i64 v3)).setCell ⟨w.heap.size, 4, none⟩ (.int .i64 v4)).cell? ⟨w.heap.size, 2, none⟩ = some (.int .u8 v2) := (show Cell (((((w2.setCell ⟨w.heap.size, 0, none⟩ (.int .i64 v0)).setCell ⟨w.heap.size, 1, none⟩ (.int .i64 v1)).setCell ⟨w.heap.size, 2, none⟩ (.int .u8 v2)).setCell ⟨w.heap.size, 3, none⟩ (.int .i64 v3)).setCell ⟨w.heap.size, 4, none⟩ (.int .i64 v4)) w.heap.size 2 (.int .u8 v2) from (((((zb2.far (off_ne (by decide)) _).far (off_ne (by decide)) _).set _).far (off_ne (by decide)) _).far (off_ne (by decide)) _)).cell
  have rr3 : (((((w2.setCell ⟨w.heap.size, 0, none⟩ (.int .i64 v0)).setCell ⟨w.heap.size, 1, none⟩ (.int .i64 v1)).setCell ⟨w.heap.size, 2, none⟩ (.int .u8 v2)).setCell ⟨w.heap.size, 3, none⟩ (.int .i64 v3)).setCell ⟨w.heap.size, 4, none⟩ (.int .i64 v4)).cell? ⟨w.heap.size, 3, none⟩ = some (.int .i64 v3) := (show Cell (((((w2.setCell ⟨w.heap.size, 0, none⟩ (.int .i64 v0)).setCell ⟨w.heap.size, 1, none⟩ (.int .i64 v1)).setCell ⟨w.heap.size, 2, none⟩ (.int .u8 v2)).setCell ⟨w.heap.size, 3, none⟩ (.int .i64 v3)).setCell ⟨w.heap.size, 4, none⟩ (.int .i64 v4)) w.heap.size 3 (.int .i64 v3) from (((((zb3.far (off_ne (by decide)) _).far (off_ne (by decide)) _).far (off_ne (by decide)) _).set _).far (off_ne (by decide)) _)).cell
  have rr4 : (((((w2.setCell ⟨w.heap.size, 0, none⟩ (.int .i64 v0)).setCell ⟨w.heap.size, 1, none⟩ (.int .i64 v1)).setCell ⟨w.heap.size, 2, none⟩ (.int .u8 v2)).setCell ⟨w.heap.size, 3, none⟩ (.int .i64 v3)).setCell ⟨w.heap.size, 4, none⟩ (.int .i64 v4)).cell? ⟨w.heap.size, 4, none⟩ = some (.int .i64 v4) := (show Cell (((((w2.setCell ⟨w.heap.size, 0, none⟩ (.int .i64 v0)).setCell ⟨w.heap.size, 1, none⟩ (.int .i64 v1)).setCell ⟨w.heap.size, 2, none⟩ (.int .u8 v2)).setCell ⟨w.heap.size, 3, none⟩ (.int .i64 v3)).setCell ⟨w.heap.size, 4, none⟩ (.int .i64 v4)) w.heap.size 4 (.int .i64 v4) from (((((zb4.far (off_ne (by decide)) _).far (off_ne (by decide)) _).far (off_ne (by decide)) _).far (off_ne (by decide)) _).set _)).cell
  have OZ := Lib.hid (show Only (· = w.heap.size) w2 (((((w2.setCell ⟨w.heap.size, 0, none⟩ (.int .i64 v0)).setCell ⟨w.heap.size, 1, none⟩ (.int .i64 v1)).setCell ⟨w.heap.size, 2, none⟩ (.int .u8 v2)).setCell ⟨w.heap.size, 3, none⟩ (.int .i64 v3)).setCell ⟨w.heap.size, 4, none⟩ (.int .i64 v4)) from (((((Only.refl (· = w.heap.size) w2).setCell (.inl rfl) _).setCell (.inl rfl) _).setCell (.inl rfl) _).setCell (.inl rfl) _).setCell (.inl rfl) _)
  have HA2 := Lib.hid hA2
  have O3 := Lib.hid o3
  clear hA2 o2 zb0 zb1 zb2 zb3 zb4 o3
  go_wp2
  refine bodyPost_ret (by simp [results, Try.results61, go_sem, rr0, rr1, rr2, rr3, rr4]; try rfl) rfl ?_
  refine ⟨rfl, by rw [HP.out]; exact ArAt.only HA2.out OZ.out (by show ¬ (b = w.heap.size); omega) (by rw [show (B.give n).gl = A.gl by rw [HBB.out]; rfl]; show ¬ (A.gl = w.heap.size); omega) (by rw [show (B.give n).gr = A.gr by rw [HBB.out]; rfl]; show ¬ (A.gr = w.heap.size); omega) (by rw [show (B.give n).gf = A.gf by rw [HBB.out]; rfl]; show ¬ (A.gf = w.heap.size); omega), ?_⟩
  exact ((((Only.refl _ w).alloc _).alloc _).trans O3.out).trans' OZ.out (fun i hi e => by omega)
end Od
end Go.Proofs.Ytkglplngnjgnhaa

/- Slots: New, walked. No condition. -/
namespace Go.Proofs.Ytkglplngnjgnhaa
set_option linter.unusedVariables false
set_option linter.unusedSimpArgs false
namespace Od
open Go.RowKit

--<shared>
theorem run_makeN {P : Program} (t e : TypeId) (i : TypeInfo) (z : Value) (ht : P.underlying t = some (.slice e)) (hi : P.info? e = some i) (hz : i.zero = some z) {s : Nat} (hs : i.size = s)
    (n : Nat) (hbytes : i.bytes * n ≤ 281474976710656) (h63 : n ≤ 9223372036854775807) (w : World) :
    (Instr.makeSlice t (.int .i64 (n : Int)) (.int .i64 (n : Int))).run P w = .ok (.slice (some ⟨w.heap.size, 0, none⟩) n n) (w.alloc (.cells (madeCells z.cells (n * s)) e)) := by
  have hb : (i.bytes : Int) * (n : Int) ≤ 281474976710656 := by
    have h : ((i.bytes * n : Nat) : Int) ≤ 281474976710656 := by omega
    rwa [Int.natCast_mul] at h
  have hr := run_make (P := P) w t e i z ht hi hz .i64 .i64 n n (by omega) (by omega) hb (by omega)
  simp only [Int.toNat_natCast, hs] at hr
  exact hr

theorem hp_new {w : World} {o : Obj} {k : Nat} (h : k = w.heap.size) : (w.alloc o).heap[k]? = some o := by subst h; exact heap_alloc_new w o
theorem hp_old {w : World} {x : Obj} {k : Nat} (h : w.heap[k]? = some x) (o : Obj) : (w.alloc o).heap[k]? = some x := (Below.heap_alloc w o k (Array.getElem?_eq_some_iff.1 h).1).trans h
theorem hp_drew {w : World} {x : Obj} {k : Nat} (h : w.heap[k]? = some x) : w.drew.heap[k]? = some x := h
theorem hp_drewN {w : World} {x : Obj} {k : Nat} (h : w.heap[k]? = some x) (n : Nat) : (w.drewN n).heap[k]? = some x := h

theorem made_at {z : Array Value} {s n i j : Nat} {v : Value} (hs : z.size = s) (hi : i < n) (hj : z[j]? = some v) : (madeCells z (n * s)).toList[i * s + j]? = some v := by
  have hjs : j < s := by rw [← hs]; exact (Array.getElem?_eq_some_iff.1 hj).1
  have hlt : i * s + j < n * s := by
    have : (i + 1) * s ≤ n * s := Nat.mul_le_mul_right _ hi
    rw [Nat.add_mul] at this; omega
  have hm : (i * s + j) % s = j := by rw [Nat.mul_comm, Nat.mul_add_mod]; exact Nat.mod_eq_of_lt hjs
  have e1 : z[(i * s + j) % z.size]! = v := by
    rw [hs, hm, getElem!_def, hj]
  simp only [madeCells, Array.toList_map, List.getElem?_map, Array.toList_range, List.getElem?_range hlt, Option.map_some, e1]

/-- A new arena. -/
def Ar.init (gl gr gf nr room : Nat) (z : Value) : Ar := ⟨gl, gr, gf, room, nr, room, fun _ => z, fun _ => -1, fun _ => 0, fun _ => 0, fun _ => -1, fun _ => -1, fun _ => 0, fun i => i⟩

--</shared>
theorem Try.infoLink : (Try.prog.info? 168).map (fun i => (i.zero, i.size, i.bytes)) = some (some (.agg #[.int .i64 0, .int .i64 0, .int .u8 0, .int .i64 0, .int .i64 0, .int .i64 0, .int .i64 0, .int .i64 0]), 8, 64) := by kernel_rfl
--<shared>
theorem Try.infoRow : (Try.prog.info? 170).map (fun i => (i.zero, i.size, i.bytes)) = some (some (.agg #[.int .i64 0, .int .i64 0, .int .i64 0]), 3, 24) := by kernel_rfl
--</shared>
def zLink : Array Value := #[.int .i64 0, .int .i64 0, .int .u8 0, .int .i64 0, .int .i64 0, .int .i64 0, .int .i64 0, .int .i64 0]
--<shared>
def zRow : Array Value := #[.int .i64 0, .int .i64 0, .int .i64 0]
def zInt : Array Value := #[.int .i64 0]
--</shared>

/-- What lies there behind the three makes. -/
structure Made (w : World) (b gl gr gf nr room : Nat) : Prop where
  hb : w.heap[b]? = some (.cells #[.slice (some ⟨gl, 0, none⟩) room room, .slice (some ⟨gr, 0, none⟩) nr nr, .slice (some ⟨gf, 0, none⟩) room room] 166 (0, 0))
  hl : w.heap[gl]? = some (.cells (madeCells zLink (room * 8)) 168 (0, 0))
  hr : w.heap[gr]? = some (.cells (madeCells zRow (nr * 3)) 170 (0, 0))
  hf : w.heap[gf]? = some (.cells (madeCells zInt room) 3 (0, 0))
  ne : b ≠ gl ∧ b ≠ gr ∧ b ≠ gf ∧ gl ≠ gr ∧ gl ≠ gf ∧ gr ≠ gf

theorem Made.at_ {w : World} {b gl gr gf nr room : Nat} (h : Made w b gl gr gf nr room) (h1 : room ≤ 65536) (h2 : nr ≤ 65536) :
    ArAt w b ⟨gl, gr, gf, room, nr, room, fun _ => .agg #[.int .i64 0, .int .i64 0, .int .u8 0, .int .i64 0, .int .i64 0], fun _ => 0, fun _ => 0, fun _ => 0, fun _ => 0, fun _ => 0, fun _ => 0, fun _ => 0⟩ := by
  have hl := h.hl
  have hr := h.hr
  rw [show madeCells zLink (room * 8) = (madeCells zLink (room * 8)).toList.toArray by simp] at hl
  rw [show madeCells zRow (nr * 3) = (madeCells zRow (nr * 3)).toList.toArray by simp] at hr
  refine ⟨cell_of_blk (cs := [_, _, _]) h.hb rfl, cell_of_blk (cs := [_, _, _]) h.hb rfl, cell_of_blk (cs := [_, _, _]) h.hb rfl,
    fun i hi c u hu => cell_of_blk hl (made_at (s := 8) (j := c) rfl hi (by match c, hu with | 0, hu => exact hu | 1, hu => exact hu | 2, hu => exact hu | 3, hu => exact hu | 4, hu => exact hu | c + 5, hu => simp [Value.cells] at hu)), fun i hi => cell_of_blk hl (made_at (s := 8) (j := 5) rfl hi rfl), fun i hi => cell_of_blk hl (made_at (s := 8) (j := 6) rfl hi rfl), fun i hi => cell_of_blk hl (made_at (s := 8) (j := 7) rfl hi rfl),
    fun i hi => cell_of_blk hr (made_at (s := 3) (j := 0) rfl hi rfl), fun i hi => cell_of_blk hr (made_at (s := 3) (j := 1) rfl hi rfl), fun i hi => cell_of_blk hr (made_at (s := 3) (j := 2) rfl hi rfl), ?_,
    ⟨(Array.getElem?_eq_some_iff.1 h.hl).1, (Array.getElem?_eq_some_iff.1 h.hr).1⟩, h.ne.1, h.ne.2.1, h.ne.2.2.1, h.ne.2.2.2.1, h.ne.2.2.2.2.1, h.ne.2.2.2.2.2, ⟨h1, h2, Nat.le_refl _⟩, fun _ _ => rfl⟩
  have hf := h.hf
  rw [show madeCells zInt room = (madeCells zInt room).toList.toArray by simp, show zInt = #[Value.int .i64 0] from rfl, toList_madeCells_one] at hf
  rw [hf]
  congr 3
  apply List.ext_getElem?
  intro k
  by_cases hk : k < room <;> simp [freeV, hk]

--<shared>
/-- What lies beyond the room does not matter. -/
theorem ArAt.congr {w : World} {b gl gr gf room nr nf : Nat} {th : Nat → Value} {ro ro' ah fa rf rf' rl rl' rn fr fr' : Nat → Int} (h : ArAt w b ⟨gl, gr, gf, room, nr, nf, th, ro, ah, fa, rf, rl, rn, fr⟩)
    (h1 : ∀ i, i < room → ro i = ro' i) (h2 : ∀ i, i < nr → rf i = rf' i) (h3 : ∀ i, i < nr → rl i = rl' i) (h4 : ∀ i, i < room → fr i = fr' i) : ArAt w b ⟨gl, gr, gf, room, nr, nf, th, ro', ah, fa, rf', rl', rn, fr'⟩ := by
  refine ⟨h.c0, h.c1, h.c2, h.l0, fun i hi => by have := h.l1 i hi; simp only at this ⊢; rwa [h1 i hi] at this, h.l2, h.l3, fun i hi => by have := h.r0 i hi; simp only at this ⊢; rwa [h2 i hi] at this, fun i hi => by have := h.r1 i hi; simp only at this ⊢; rwa [h3 i hi] at this, h.r2, ?_, h.lr, h.n1, h.n2, h.n3, h.n4, h.n5, h.n6, h.small, h.tc⟩
  have := h.f
  simp only [freeV] at this ⊢
  rw [this]
  congr 3
  apply List.map_congr_left
  intro i hi
  rw [h4 i (by simpa using hi)]
--</shared>

set_option maxHeartbeats 4000000 in
set_option maxRecDepth 100000 in
theorem s_new_no (w : World) (rows room : Int) (h : rows < 1 ∨ rows > 65536 ∨ room < 0 ∨ room > 65536) :
    Calls Try.prog 54 #[.int .i64 rows, .int .i64 room] w fun e w' => e = .returned (.tuple #[.pointer none, .int .i64 1]) ∧ Only (fun _ => False) w w' := by
  by_cases h1 : rows < 1
  · clear h
    go_enter Try.func54, Try.ntmps54
    go_wp2
    go_returns
    exact ⟨rfl, by repeat' (first | (with_reducible exact Only.refl _ _) | (with_reducible assumption) | (refine Only.of_none ?_; with_reducible assumption) | (with_reducible refine Only.drewN ?_ _) | (with_reducible refine Only.drew ?_) | (with_reducible refine Only.alloc ?_ _) | (with_reducible refine Only.setCell ?_ ?_ _) | (with_reducible refine Only.then0 ?_ (by with_reducible assumption)) | (with_reducible refine Only.thenN ?_ (by with_reducible assumption) ?_) | (with_reducible refine Only.trans ?_ (by with_reducible assumption)) | (refine .inl ?_; first | rfl | (simp; done) | (simp [Ar.blk]; done)) | (refine .inr ?_; first | omega | (simp; done) | (simp; omega) | exact Only.size (by with_reducible assumption) | (refine Nat.le_trans (Only.size (by with_reducible assumption)) ?_; simp; done)))⟩
  · have e1 : decide (rows < 1) = false := by simpa using h1
    by_cases h2 : rows > 65536
    · clear h
      go_enter Try.func54, Try.ntmps54
      go_wp2
      go_returns
      exact ⟨rfl, by repeat' (first | (with_reducible exact Only.refl _ _) | (with_reducible assumption) | (refine Only.of_none ?_; with_reducible assumption) | (with_reducible refine Only.drewN ?_ _) | (with_reducible refine Only.drew ?_) | (with_reducible refine Only.alloc ?_ _) | (with_reducible refine Only.setCell ?_ ?_ _) | (with_reducible refine Only.then0 ?_ (by with_reducible assumption)) | (with_reducible refine Only.thenN ?_ (by with_reducible assumption) ?_) | (with_reducible refine Only.trans ?_ (by with_reducible assumption)) | (refine .inl ?_; first | rfl | (simp; done) | (simp [Ar.blk]; done)) | (refine .inr ?_; first | omega | (simp; done) | (simp; omega) | exact Only.size (by with_reducible assumption) | (refine Nat.le_trans (Only.size (by with_reducible assumption)) ?_; simp; done)))⟩
    · have e2 : decide (65536 < rows) = false := by simp; omega
      by_cases h3 : room < 0
      · clear h
        go_enter Try.func54, Try.ntmps54
        go_wp2
        go_returns
        exact ⟨rfl, by repeat' (first | (with_reducible exact Only.refl _ _) | (with_reducible assumption) | (refine Only.of_none ?_; with_reducible assumption) | (with_reducible refine Only.drewN ?_ _) | (with_reducible refine Only.drew ?_) | (with_reducible refine Only.alloc ?_ _) | (with_reducible refine Only.setCell ?_ ?_ _) | (with_reducible refine Only.then0 ?_ (by with_reducible assumption)) | (with_reducible refine Only.thenN ?_ (by with_reducible assumption) ?_) | (with_reducible refine Only.trans ?_ (by with_reducible assumption)) | (refine .inl ?_; first | rfl | (simp; done) | (simp [Ar.blk]; done)) | (refine .inr ?_; first | omega | (simp; done) | (simp; omega) | exact Only.size (by with_reducible assumption) | (refine Nat.le_trans (Only.size (by with_reducible assumption)) ?_; simp; done)))⟩
      · have e3 : decide (room < 0) = false := by simpa using h3
        have h4 : 65536 < room := by omega
        clear h
        go_enter Try.func54, Try.ntmps54
        go_wp2
        go_returns
        exact ⟨rfl, by repeat' (first | (with_reducible exact Only.refl _ _) | (with_reducible assumption) | (refine Only.of_none ?_; with_reducible assumption) | (with_reducible refine Only.drewN ?_ _) | (with_reducible refine Only.drew ?_) | (with_reducible refine Only.alloc ?_ _) | (with_reducible refine Only.setCell ?_ ?_ _) | (with_reducible refine Only.then0 ?_ (by with_reducible assumption)) | (with_reducible refine Only.thenN ?_ (by with_reducible assumption) ?_) | (with_reducible refine Only.trans ?_ (by with_reducible assumption)) | (refine .inl ?_; first | rfl | (simp; done) | (simp [Ar.blk]; done)) | (refine .inr ?_; first | omega | (simp; done) | (simp; omega) | exact Only.size (by with_reducible assumption) | (refine Nat.le_trans (Only.size (by with_reducible assumption)) ?_; simp; done)))⟩

def NewPost (w : World) (nr room : Nat) (e : Ending) (w' : World) : Prop :=
  ∃ b gl gr gf, e = .returned (.tuple #[.pointer (some ⟨b, 0, none⟩), .int .i64 0]) ∧ ArAt w' b (Ar.init gl gr gf nr room (.agg #[.int .i64 0, .int .i64 0, .int .u8 0, .int .i64 0, .int .i64 0])) ∧ Only (fun _ => False) w w' ∧ w.heap.size ≤ b ∧ w.heap.size ≤ gl ∧ w.heap.size ≤ gr ∧ w.heap.size ≤ gf

set_option maxHeartbeats 4000000 in
set_option maxRecDepth 100000 in
theorem s_new (w : World) (nr room : Nat) (h1 : 1 ≤ nr) (h2 : nr ≤ 65536) (h3 : room ≤ 65536) :
    Calls Try.prog 54 #[.int .i64 nr, .int .i64 room] w (NewPost w nr room) := by
  obtain ⟨i1, hi1, hz1, hs1, hb1⟩ := info_parts Try.infoLink
  obtain ⟨i2, hi2, hz2, hs2, hb2⟩ := info_parts Try.infoRow
  obtain ⟨i3, hi3, hz3, hs3, hb3⟩ := info_parts Try.infoInt
  have m1 := fun W => run_makeN (P := Try.prog) 162 168 i1 _ Try.underlying162 hi1 hz1 hs1 room (by rw [hb1]; omega) (by omega) W
  have m2 := fun W => run_makeN (P := Try.prog) 163 170 i2 _ Try.underlying163 hi2 hz2 hs2 nr (by rw [hb2]; omega) (by omega) W
  have m3 := fun W => run_makeN (P := Try.prog) 164 3 i3 _ Try.underlying164 hi3 hz3 hs3 room (by rw [hb3]; omega) (by omega) W
  change ∀ W : World, _ = Result.ok _ (W.alloc (.cells (madeCells zLink (room * 8)) _)) at m1
  change ∀ W : World, _ = Result.ok _ (W.alloc (.cells (madeCells zRow (nr * 3)) _)) at m2
  change ∀ W : World, _ = Result.ok _ (W.alloc (.cells (madeCells zInt (room * 1)) _)) at m3
  clear hi1 hz1 hs1 hb1 hi2 hz2 hs2 hb2 hi3 hz3 hs3 hb3
  have e1 : decide ((nr : Int) < 1) = false := by simp; omega
  have e2 : decide (65536 < (nr : Int)) = false := by simp; omega
  have e3 : decide ((room : Int) < 0) = false := by simp
  have e4 : decide (65536 < (room : Int)) = false := by simp; omega
  go_enter Try.func54, Try.ntmps54
  go_upto_region 3 with fail
  go_cut [6] (fun s6 wc => ∃ b gl gr gf, s6 = .pointer (some ⟨b, 0, none⟩) ∧ Made wc b gl gr gf nr room ∧ Only (fun _ => False) w wc ∧ w.heap.size ≤ b ∧ w.heap.size ≤ gl ∧ w.heap.size ≤ gr ∧ w.heap.size ≤ gf)
  case first =>
    go_region
    all_goals
      go_wp2_with fail
      go_meet
      first
        | (refine ⟨_, w.heap.size, (w.heap.size + 1), (w.heap.size + 1 + 1), rfl, ⟨?_, ?_, ?_, ?_, ?_⟩, ?_, ?_, ?_, ?_, ?_⟩; (repeat (first | exact hp_new (by simp; done) | (with_reducible refine hp_drew ?_) | (with_reducible refine hp_drewN ?_ _) | (with_reducible refine hp_old ?_ _))); (repeat (first | exact hp_new (by simp; done) | (with_reducible refine hp_drew ?_) | (with_reducible refine hp_drewN ?_ _) | (with_reducible refine hp_old ?_ _))); (repeat (first | exact hp_new (by simp; done) | (with_reducible refine hp_drew ?_) | (with_reducible refine hp_drewN ?_ _) | (with_reducible refine hp_old ?_ _))); (repeat (first | exact hp_new (by simp; done) | (with_reducible refine hp_drew ?_) | (with_reducible refine hp_drewN ?_ _) | (with_reducible refine hp_old ?_ _))); omega; (repeat' (first | (with_reducible exact Only.refl _ _) | (with_reducible assumption) | (refine Only.of_none ?_; with_reducible assumption) | (with_reducible refine Only.drewN ?_ _) | (with_reducible refine Only.drew ?_) | (with_reducible refine Only.alloc ?_ _) | (with_reducible refine Only.setCell ?_ ?_ _) | (with_reducible refine Only.then0 ?_ (by with_reducible assumption)) | (with_reducible refine Only.thenN ?_ (by with_reducible assumption) ?_) | (with_reducible refine Only.trans ?_ (by with_reducible assumption)) | (refine .inl ?_; first | rfl | (simp; done) | (simp [Ar.blk]; done)) | (refine .inr ?_; first | omega | (simp; done) | (simp; omega) | exact Only.size (by with_reducible assumption) | (refine Nat.le_trans (Only.size (by with_reducible assumption)) ?_; simp; done)))); all_goals (first | omega | (simp; done) | (simp; omega)); done)
        | (refine ⟨_, w.heap.size, (w.heap.size + 1 + 1), (w.heap.size + 1), rfl, ⟨?_, ?_, ?_, ?_, ?_⟩, ?_, ?_, ?_, ?_, ?_⟩; (repeat (first | exact hp_new (by simp; done) | (with_reducible refine hp_drew ?_) | (with_reducible refine hp_drewN ?_ _) | (with_reducible refine hp_old ?_ _))); (repeat (first | exact hp_new (by simp; done) | (with_reducible refine hp_drew ?_) | (with_reducible refine hp_drewN ?_ _) | (with_reducible refine hp_old ?_ _))); (repeat (first | exact hp_new (by simp; done) | (with_reducible refine hp_drew ?_) | (with_reducible refine hp_drewN ?_ _) | (with_reducible refine hp_old ?_ _))); (repeat (first | exact hp_new (by simp; done) | (with_reducible refine hp_drew ?_) | (with_reducible refine hp_drewN ?_ _) | (with_reducible refine hp_old ?_ _))); omega; (repeat' (first | (with_reducible exact Only.refl _ _) | (with_reducible assumption) | (refine Only.of_none ?_; with_reducible assumption) | (with_reducible refine Only.drewN ?_ _) | (with_reducible refine Only.drew ?_) | (with_reducible refine Only.alloc ?_ _) | (with_reducible refine Only.setCell ?_ ?_ _) | (with_reducible refine Only.then0 ?_ (by with_reducible assumption)) | (with_reducible refine Only.thenN ?_ (by with_reducible assumption) ?_) | (with_reducible refine Only.trans ?_ (by with_reducible assumption)) | (refine .inl ?_; first | rfl | (simp; done) | (simp [Ar.blk]; done)) | (refine .inr ?_; first | omega | (simp; done) | (simp; omega) | exact Only.size (by with_reducible assumption) | (refine Nat.le_trans (Only.size (by with_reducible assumption)) ?_; simp; done)))); all_goals (first | omega | (simp; done) | (simp; omega)); done)
        | (refine ⟨_, (w.heap.size + 1), w.heap.size, (w.heap.size + 1 + 1), rfl, ⟨?_, ?_, ?_, ?_, ?_⟩, ?_, ?_, ?_, ?_, ?_⟩; (repeat (first | exact hp_new (by simp; done) | (with_reducible refine hp_drew ?_) | (with_reducible refine hp_drewN ?_ _) | (with_reducible refine hp_old ?_ _))); (repeat (first | exact hp_new (by simp; done) | (with_reducible refine hp_drew ?_) | (with_reducible refine hp_drewN ?_ _) | (with_reducible refine hp_old ?_ _))); (repeat (first | exact hp_new (by simp; done) | (with_reducible refine hp_drew ?_) | (with_reducible refine hp_drewN ?_ _) | (with_reducible refine hp_old ?_ _))); (repeat (first | exact hp_new (by simp; done) | (with_reducible refine hp_drew ?_) | (with_reducible refine hp_drewN ?_ _) | (with_reducible refine hp_old ?_ _))); omega; (repeat' (first | (with_reducible exact Only.refl _ _) | (with_reducible assumption) | (refine Only.of_none ?_; with_reducible assumption) | (with_reducible refine Only.drewN ?_ _) | (with_reducible refine Only.drew ?_) | (with_reducible refine Only.alloc ?_ _) | (with_reducible refine Only.setCell ?_ ?_ _) | (with_reducible refine Only.then0 ?_ (by with_reducible assumption)) | (with_reducible refine Only.thenN ?_ (by with_reducible assumption) ?_) | (with_reducible refine Only.trans ?_ (by with_reducible assumption)) | (refine .inl ?_; first | rfl | (simp; done) | (simp [Ar.blk]; done)) | (refine .inr ?_; first | omega | (simp; done) | (simp; omega) | exact Only.size (by with_reducible assumption) | (refine Nat.le_trans (Only.size (by with_reducible assumption)) ?_; simp; done)))); all_goals (first | omega | (simp; done) | (simp; omega)); done)
        | (refine ⟨_, (w.heap.size + 1), (w.heap.size + 1 + 1), w.heap.size, rfl, ⟨?_, ?_, ?_, ?_, ?_⟩, ?_, ?_, ?_, ?_, ?_⟩; (repeat (first | exact hp_new (by simp; done) | (with_reducible refine hp_drew ?_) | (with_reducible refine hp_drewN ?_ _) | (with_reducible refine hp_old ?_ _))); (repeat (first | exact hp_new (by simp; done) | (with_reducible refine hp_drew ?_) | (with_reducible refine hp_drewN ?_ _) | (with_reducible refine hp_old ?_ _))); (repeat (first | exact hp_new (by simp; done) | (with_reducible refine hp_drew ?_) | (with_reducible refine hp_drewN ?_ _) | (with_reducible refine hp_old ?_ _))); (repeat (first | exact hp_new (by simp; done) | (with_reducible refine hp_drew ?_) | (with_reducible refine hp_drewN ?_ _) | (with_reducible refine hp_old ?_ _))); omega; (repeat' (first | (with_reducible exact Only.refl _ _) | (with_reducible assumption) | (refine Only.of_none ?_; with_reducible assumption) | (with_reducible refine Only.drewN ?_ _) | (with_reducible refine Only.drew ?_) | (with_reducible refine Only.alloc ?_ _) | (with_reducible refine Only.setCell ?_ ?_ _) | (with_reducible refine Only.then0 ?_ (by with_reducible assumption)) | (with_reducible refine Only.thenN ?_ (by with_reducible assumption) ?_) | (with_reducible refine Only.trans ?_ (by with_reducible assumption)) | (refine .inl ?_; first | rfl | (simp; done) | (simp [Ar.blk]; done)) | (refine .inr ?_; first | omega | (simp; done) | (simp; omega) | exact Only.size (by with_reducible assumption) | (refine Nat.le_trans (Only.size (by with_reducible assumption)) ?_; simp; done)))); all_goals (first | omega | (simp; done) | (simp; omega)); done)
        | (refine ⟨_, (w.heap.size + 1 + 1), w.heap.size, (w.heap.size + 1), rfl, ⟨?_, ?_, ?_, ?_, ?_⟩, ?_, ?_, ?_, ?_, ?_⟩; (repeat (first | exact hp_new (by simp; done) | (with_reducible refine hp_drew ?_) | (with_reducible refine hp_drewN ?_ _) | (with_reducible refine hp_old ?_ _))); (repeat (first | exact hp_new (by simp; done) | (with_reducible refine hp_drew ?_) | (with_reducible refine hp_drewN ?_ _) | (with_reducible refine hp_old ?_ _))); (repeat (first | exact hp_new (by simp; done) | (with_reducible refine hp_drew ?_) | (with_reducible refine hp_drewN ?_ _) | (with_reducible refine hp_old ?_ _))); (repeat (first | exact hp_new (by simp; done) | (with_reducible refine hp_drew ?_) | (with_reducible refine hp_drewN ?_ _) | (with_reducible refine hp_old ?_ _))); omega; (repeat' (first | (with_reducible exact Only.refl _ _) | (with_reducible assumption) | (refine Only.of_none ?_; with_reducible assumption) | (with_reducible refine Only.drewN ?_ _) | (with_reducible refine Only.drew ?_) | (with_reducible refine Only.alloc ?_ _) | (with_reducible refine Only.setCell ?_ ?_ _) | (with_reducible refine Only.then0 ?_ (by with_reducible assumption)) | (with_reducible refine Only.thenN ?_ (by with_reducible assumption) ?_) | (with_reducible refine Only.trans ?_ (by with_reducible assumption)) | (refine .inl ?_; first | rfl | (simp; done) | (simp [Ar.blk]; done)) | (refine .inr ?_; first | omega | (simp; done) | (simp; omega) | exact Only.size (by with_reducible assumption) | (refine Nat.le_trans (Only.size (by with_reducible assumption)) ?_; simp; done)))); all_goals (first | omega | (simp; done) | (simp; omega)); done)
        | (refine ⟨_, (w.heap.size + 1 + 1), (w.heap.size + 1), w.heap.size, rfl, ⟨?_, ?_, ?_, ?_, ?_⟩, ?_, ?_, ?_, ?_, ?_⟩; (repeat (first | exact hp_new (by simp; done) | (with_reducible refine hp_drew ?_) | (with_reducible refine hp_drewN ?_ _) | (with_reducible refine hp_old ?_ _))); (repeat (first | exact hp_new (by simp; done) | (with_reducible refine hp_drew ?_) | (with_reducible refine hp_drewN ?_ _) | (with_reducible refine hp_old ?_ _))); (repeat (first | exact hp_new (by simp; done) | (with_reducible refine hp_drew ?_) | (with_reducible refine hp_drewN ?_ _) | (with_reducible refine hp_old ?_ _))); (repeat (first | exact hp_new (by simp; done) | (with_reducible refine hp_drew ?_) | (with_reducible refine hp_drewN ?_ _) | (with_reducible refine hp_old ?_ _))); omega; (repeat' (first | (with_reducible exact Only.refl _ _) | (with_reducible assumption) | (refine Only.of_none ?_; with_reducible assumption) | (with_reducible refine Only.drewN ?_ _) | (with_reducible refine Only.drew ?_) | (with_reducible refine Only.alloc ?_ _) | (with_reducible refine Only.setCell ?_ ?_ _) | (with_reducible refine Only.then0 ?_ (by with_reducible assumption)) | (with_reducible refine Only.thenN ?_ (by with_reducible assumption) ?_) | (with_reducible refine Only.trans ?_ (by with_reducible assumption)) | (refine .inl ?_; first | rfl | (simp; done) | (simp [Ar.blk]; done)) | (refine .inr ?_; first | omega | (simp; done) | (simp; omega) | exact Only.size (by with_reducible assumption) | (refine Nat.le_trans (Only.size (by with_reducible assumption)) ?_; simp; done)))); all_goals (first | omega | (simp; done) | (simp; omega)); done)
  case rest =>
    obtain ⟨b, gl, gr, gf, rfl, hM, ho, g1, g2, g3, g4⟩ := hcut
    have hA := hM.at_ h3 h2
    have hne := hM.ne
    clear m1 m2 m3 hM
    have c0 := hA.c0.cell
    simp only at c0
    go_wp2
    go_loopw [36] (fun i wr => ∃ (k : Nat), i = .int .i64 k ∧ k ≤ room ∧ ArAt wr b ⟨gl, gr, gf, room, nr, room, fun _ => .agg #[.int .i64 0, .int .i64 0, .int .u8 0, .int .i64 0, .int .i64 0], fun i => if i < k then -1 else 0, fun _ => 0, fun _ => 0, fun _ => 0, fun _ => 0, fun _ => 0, fun i => if i < k then i else 0⟩ ∧ Only (fun _ => False) w wr)
      (fun i _ => room - (intOf i).toNat)
    case atStart => exact ⟨0, rfl, by omega, by simpa using hA, ho⟩
    case round =>
      obtain ⟨k, rfl, hk, hA1, ho1⟩ := hrel
      clear hA c0 ho
      have c0 := hA1.c0.cell
      have c1 := hA1.c1.cell
      have c2 := hA1.c2.cell
      have hbw := hA1.c0.lt
      have hlw := hA1.lr.1
      have hfw := hA1.gf_lt
      simp only at c0 c1 c2 hlw hfw
      by_cases hlt : k < room
      · obtain ⟨t1, u1⟩ := hA1.l1 k hlt
        obtain ⟨t2, u2⟩ := hA1.fc (i := k) hlt
        simp only at t1 u1 t2 u2
        have HW := Lib.hid (fun W (hW : ArAt W b ⟨gl, gr, gf, room, nr, room, fun _ => .agg #[.int .i64 0, .int .i64 0, .int .u8 0, .int .i64 0, .int .i64 0], fun i => if i < k then -1 else 0, fun _ => 0, fun _ => 0, fun _ => 0, fun _ => 0, fun _ => 0, fun i => if i < k then i else 0⟩) => (hW.set_ro (i := k) hlt (-1)).setf (i := k) hlt k)
        have HA1 := Lib.hid hA1
        clear hA1
        have n1 := hne.1
        have n3 := hne.2.2.1
        have n5 := hne.2.2.2.2.1
        go_wp2
        go_region
        go_wp2
        go_roundw
        case rel =>
          refine ⟨k + 1, by go_num, by omega, ?_, by repeat' (first | (with_reducible exact Only.refl _ _) | (with_reducible assumption) | (refine Only.of_none ?_; with_reducible assumption) | (with_reducible refine Only.drewN ?_ _) | (with_reducible refine Only.drew ?_) | (with_reducible refine Only.alloc ?_ _) | (with_reducible refine Only.setCell ?_ ?_ _) | (with_reducible refine Only.then0 ?_ (by with_reducible assumption)) | (with_reducible refine Only.thenN ?_ (by with_reducible assumption) ?_) | (with_reducible refine Only.trans ?_ (by with_reducible assumption)) | (refine .inl ?_; first | rfl | (simp; done) | (simp [Ar.blk]; done)) | (refine .inr ?_; first | omega | (simp; done) | (simp; omega) | exact Only.size (by with_reducible assumption) | (refine Nat.le_trans (Only.size (by with_reducible assumption)) ?_; simp; done)))⟩
          (repeat (first | (with_reducible refine ArAt.drew ?_) | (with_reducible refine ArAt.drewN ?_ _) | (with_reducible refine ArAt.alloc ?_ _)));
          have h5 := (HW.out _ (by (repeat (first | (with_reducible refine ArAt.drew ?_) | (with_reducible refine ArAt.drewN ?_ _) | (with_reducible refine ArAt.alloc ?_ _))); exact HA1.out))
          have e1 : upd (fun i : Nat => if i < k then (-1 : Int) else 0) k (-1) = fun i => if i < k + 1 then -1 else 0 := by
            funext i; simp only [upd]; by_cases h1 : i = k
            · subst h1; simp
            · rw [if_neg h1]; by_cases h2 : i < k
              · rw [if_pos h2, if_pos (by omega)]
              · rw [if_neg h2, if_neg (by omega)]
          have e2 : upd (fun i : Nat => if i < k then (i : Int) else 0) k k = fun i => if i < k + 1 then (i : Int) else 0 := by
            funext i; simp only [upd]; by_cases h1 : i = k
            · subst h1; simp
            · rw [if_neg h1]; by_cases h2 : i < k
              · rw [if_pos h2, if_pos (by omega)]
              · rw [if_neg h2, if_neg (by omega)]
          simp only [e1, e2] at h5
          exact h5
        case measure => simp [intOf]; omega
      · have hkr : k = room := by omega
        subst hkr
        obtain ⟨F, hF⟩ : ∃ F : Nat → Int, F = fun i => if i < k then (i : Int) else 0 := ⟨_, rfl⟩
        obtain ⟨R, hR⟩ : ∃ R : Nat → Int, R = fun i => if i < k then -1 else 0 := ⟨_, rfl⟩
        rw [← hF, ← hR] at hA1
        have HF := Lib.hid hF
        have HR := Lib.hid hR
        have HA1 := Lib.hid hA1
        clear hF hR hA1
        go_wp2
        go_loopw [59] (fun i wr => ∃ (j : Nat), i = .int .i64 j ∧ j ≤ nr ∧ ArAt wr b ⟨gl, gr, gf, k, nr, k, fun _ => .agg #[.int .i64 0, .int .i64 0, .int .u8 0, .int .i64 0, .int .i64 0], R, fun _ => 0, fun _ => 0, fun i => if i < j then -1 else 0, fun i => if i < j then -1 else 0, fun _ => 0, F⟩ ∧ Only (fun _ => False) w wr)
          (fun i _ => nr - (intOf i).toNat)
        case atStart => exact ⟨0, rfl, by omega, by simpa using HA1.out, ho1⟩
        case round =>
          obtain ⟨j, rfl, hj, hA2, ho2⟩ := hrel
          have d1 := hA2.c1.cell
          have hbw2 := hA2.c1.lt
          have hgw2 := hA2.lr.2
          simp only at d1 hgw2
          by_cases hlt2 : j < nr
          · obtain ⟨q0, p0⟩ := hA2.r0 j hlt2
            obtain ⟨q1, p1⟩ := hA2.r1 j hlt2
            obtain ⟨q2, p2⟩ := hA2.r2 j hlt2
            simp only at q0 q1 q2 p0 p1 p2
            have HW := Lib.hid (((hA2.set_rf (i := j) hlt2 (-1)).set_rl (i := j) hlt2 (-1)).set_rn (i := j) hlt2 0)
            clear hA2
            go_wp2
            go_roundw
            case rel =>
              refine ⟨j + 1, by go_num, by omega, ?_, by repeat' (first | (with_reducible exact Only.refl _ _) | (with_reducible assumption) | (refine Only.of_none ?_; with_reducible assumption) | (with_reducible refine Only.drewN ?_ _) | (with_reducible refine Only.drew ?_) | (with_reducible refine Only.alloc ?_ _) | (with_reducible refine Only.setCell ?_ ?_ _) | (with_reducible refine Only.then0 ?_ (by with_reducible assumption)) | (with_reducible refine Only.thenN ?_ (by with_reducible assumption) ?_) | (with_reducible refine Only.trans ?_ (by with_reducible assumption)) | (refine .inl ?_; first | rfl | (simp; done) | (simp [Ar.blk]; done)) | (refine .inr ?_; first | omega | (simp; done) | (simp; omega) | exact Only.size (by with_reducible assumption) | (refine Nat.le_trans (Only.size (by with_reducible assumption)) ?_; simp; done)))⟩
              (repeat (first | (with_reducible refine ArAt.drew ?_) | (with_reducible refine ArAt.drewN ?_ _) | (with_reducible refine ArAt.alloc ?_ _)));
              have h5 := HW.out
              have e1 : upd (fun i : Nat => if i < j then (-1 : Int) else 0) j (-1) = fun i => if i < j + 1 then -1 else 0 := by
                funext i; simp only [upd]; by_cases h1 : i = j
                · subst h1; simp
                · rw [if_neg h1]; by_cases h2 : i < j
                  · rw [if_pos h2, if_pos (by omega)]
                  · rw [if_neg h2, if_neg (by omega)]
              have e2 : upd (fun _ : Nat => (0 : Int)) j 0 = fun _ => 0 := by
                funext i; simp only [upd]; split <;> rfl
              simp only [e1, e2] at h5
              exact h5
            case measure => simp [intOf]; omega
          · have hjr : j = nr := by omega
            have HA2 := Lib.hid hA2
            clear hA2
            go_wp2
            go_returns
            refine ⟨b, gl, gr, gf, rfl, ?_, by repeat' (first | (with_reducible exact Only.refl _ _) | (with_reducible assumption) | (refine Only.of_none ?_; with_reducible assumption) | (with_reducible refine Only.drewN ?_ _) | (with_reducible refine Only.drew ?_) | (with_reducible refine Only.alloc ?_ _) | (with_reducible refine Only.setCell ?_ ?_ _) | (with_reducible refine Only.then0 ?_ (by with_reducible assumption)) | (with_reducible refine Only.thenN ?_ (by with_reducible assumption) ?_) | (with_reducible refine Only.trans ?_ (by with_reducible assumption)) | (refine .inl ?_; first | rfl | (simp; done) | (simp [Ar.blk]; done)) | (refine .inr ?_; first | omega | (simp; done) | (simp; omega) | exact Only.size (by with_reducible assumption) | (refine Nat.le_trans (Only.size (by with_reducible assumption)) ?_; simp; done))), g1, g2, g3, g4⟩
            (repeat (first | (with_reducible refine ArAt.drew ?_) | (with_reducible refine ArAt.drewN ?_ _) | (with_reducible refine ArAt.alloc ?_ _)));
            have h5 := HA2.out
            rw [HF.out, HR.out, hjr] at h5
            exact h5.congr (fun i hi => by simp [Ar.init, hi]) (fun i hi => by simp [Ar.init, hi]) (fun i hi => by simp [Ar.init, hi]) (fun i hi => by simp [Ar.init, hi])
end Od
end Go.Proofs.Ytkglplngnjgnhaa
