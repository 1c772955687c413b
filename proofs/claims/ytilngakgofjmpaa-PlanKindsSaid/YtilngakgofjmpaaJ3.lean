/- Slots, the plain side: an arena as numbers: links, rows, and a heap of free numbers. No condition. -/
import Derived.RowKit
import Derived.Test.YtilngakgofjmpaaRows
import Derived.Test.YtilngakgofjmpaaJ1
import Derived.BigRegion
namespace Go.Proofs.Ytilngakgofjmpaa
set_option linter.unusedVariables false
set_option linter.unusedSimpArgs false
namespace Od
open Go.RowKit

def upd {α : Type} (f : Nat → α) (k : Nat) (v : α) : Nat → α := fun i => if i = k then v else f i
def swp {α : Type} (f : Nat → α) (i k : Nat) : Nat → α := upd (upd f i (f k)) k (f i)
theorem upd_same {α : Type} (f : Nat → α) (k : Nat) (v : α) : upd f k v k = v := if_pos rfl
theorem upd_other {α : Type} {f : Nat → α} {k i : Nat} {v : α} (h : i ≠ k) : upd f k v i = f i := if_neg h

/-- A number goes up the heap. -/
def siftUp : Nat → (Nat → Int) → Nat → (Nat → Int)
  | 0, f, _ => f
  | n + 1, f, i => if i = 0 then f else if f ((i - 1) / 2) < f i then f else siftUp n (swp f ((i - 1) / 2) i) ((i - 1) / 2)
/-- The lesser one of two below, if there are two. -/
def down (f : Nat → Int) (i e : Nat) : Nat := if 2 * i + 2 < e ∧ f (2 * i + 2) < f (2 * i + 1) then 2 * i + 2 else 2 * i + 1
/-- A number goes down the heap. -/
def siftDown : Nat → (Nat → Int) → Nat → Nat → (Nat → Int)
  | 0, f, _, _ => f
  | n + 1, f, i, e => if e ≤ down f i e ∨ f i < f (down f i e) then f else siftDown n (swp f i (down f i e)) (down f i e) e

theorem siftUp_more : ∀ (n m : Nat) (f : Nat → Int) (i : Nat), i < n → i < m → siftUp n f i = siftUp m f i := by
  intro n
  induction n with
  | zero => intro m f i h; omega
  | succ n ih =>
    intro m f i h hm
    cases m with
    | zero => omega
    | succ m =>
      simp only [siftUp]
      by_cases h0 : i = 0
      · rw [if_pos h0, if_pos h0]
      · rw [if_neg h0, if_neg h0]
        split
        · rfl
        · exact ih m _ _ (by omega) (by omega)
theorem down_lt (f : Nat → Int) (i e : Nat) : i < down f i e ∧ down f i e ≤ 2 * i + 2 := by unfold down; split <;> omega
theorem siftDown_more : ∀ (n m : Nat) (f : Nat → Int) (i e : Nat), e ≤ i + n → e ≤ i + m → 0 < n → 0 < m → siftDown n f i e = siftDown m f i e := by
  intro n
  induction n with
  | zero => intro m f i e _ _ h; omega
  | succ n ih =>
    intro m f i e h hm _ h0
    cases m with
    | zero => omega
    | succ m =>
      simp only [siftDown]
      have := down_lt f i e
      by_cases hc : e ≤ down f i e ∨ f i < f (down f i e)
      · rw [if_pos hc, if_pos hc]
      · rw [if_neg hc, if_neg hc]
        exact ih m _ _ _ (by omega) (by omega) (by omega) (by omega)

/-- An arena in memory: the blocks of its links, rows and free numbers; how many links and rows it has, how many numbers are free; of each link the thing, the row, the one ahead, the one behind; of each row the first, the last, how many; the heap. -/
structure Ar where
  gl : Nat
  gr : Nat
  gf : Nat
  room : Nat
  nr : Nat
  nf : Nat
  th : Nat → Value
  ro : Nat → Int
  ah : Nat → Int
  fa : Nat → Int
  rf : Nat → Int
  rl : Nat → Int
  rn : Nat → Int
  fr : Nat → Int

def Ar.give (A : Ar) (n : Int) : Ar := { A with nf := A.nf + 1, fr := siftUp (A.nf + 1) (upd A.fr A.nf n) A.nf }
def Ar.least (A : Ar) : Ar := { A with nf := A.nf - 1, fr := siftDown A.nf (upd A.fr 0 (A.fr (A.nf - 1))) 0 (A.nf - 1) }
end Od
end Go.Proofs.Ytilngakgofjmpaa

/- Slots: the walks over the heap of free numbers. Conditions: an arena as New lays it. -/
namespace Go.Proofs.Ytilngakgofjmpaa
set_option linter.unusedVariables false
set_option linter.unusedSimpArgs false
namespace Od
open Go.RowKit

def freeV (A : Ar) : List Value := (List.range A.room).map fun i => .int .i64 (A.fr i)

structure ArAt (w : World) (b : Nat) (A : Ar) : Prop where
  c0 : Cell w b 0 (.slice (some ⟨A.gl, 0, none⟩) A.room A.room)
  c1 : Cell w b 1 (.slice (some ⟨A.gr, 0, none⟩) A.nr A.nr)
  c2 : Cell w b 2 (.slice (some ⟨A.gf, 0, none⟩) A.nf A.room)
  l0 : ∀ i, i < A.room → ∀ c u, (A.th i).cells[c]? = some u → Cell w A.gl (i * 8 + c) u
  l1 : ∀ i, i < A.room → Cell w A.gl (i * 8 + 5) (.int .i64 (A.ro i))
  l2 : ∀ i, i < A.room → Cell w A.gl (i * 8 + 6) (.int .i64 (A.ah i))
  l3 : ∀ i, i < A.room → Cell w A.gl (i * 8 + 7) (.int .i64 (A.fa i))
  r0 : ∀ i, i < A.nr → Cell w A.gr (i * 3) (.int .i64 (A.rf i))
  r1 : ∀ i, i < A.nr → Cell w A.gr (i * 3 + 1) (.int .i64 (A.rl i))
  r2 : ∀ i, i < A.nr → Cell w A.gr (i * 3 + 2) (.int .i64 (A.rn i))
  f : w.heap[A.gf]? = some (.cells (freeV A).toArray 3 (0, 0))
  lr : A.gl < w.heap.size ∧ A.gr < w.heap.size
  n1 : b ≠ A.gl
  n2 : b ≠ A.gr
  n3 : b ≠ A.gf
  n4 : A.gl ≠ A.gr
  n5 : A.gl ≠ A.gf
  n6 : A.gr ≠ A.gf
  small : A.room ≤ 65536 ∧ A.nr ≤ 65536 ∧ A.nf ≤ A.room
  tc : ∀ i, i < A.room → (A.th i).cells.size = 5

theorem cell_of_blk {w : World} {g : Nat} {cs : List Value} {t : TypeId} (h : w.heap[g]? = some (.cells cs.toArray t (0, 0))) {i : Nat} {v : Value} (hi : cs[i]? = some v) : Cell w g i v :=
  ⟨by unfold World.cell?; simp only [h]; simpa using hi, by unfold World.frozen?; simp only [h]; simp⟩

theorem freeV_at {A : Ar} {i : Nat} (h : i < A.room) : (freeV A)[i]? = some (.int .i64 (A.fr i)) := by simp [freeV, h]
theorem ArAt.fc {w : World} {b : Nat} {A : Ar} (h : ArAt w b A) {i : Nat} (hi : i < A.room) : Cell w A.gf i (.int .i64 (A.fr i)) := cell_of_blk h.f (freeV_at hi)
theorem ArAt.gf_lt {w : World} {b : Nat} {A : Ar} (h : ArAt w b A) : A.gf < w.heap.size := by
  rcases Nat.lt_or_ge A.gf w.heap.size with hlt | hge
  · exact hlt
  · have := h.f; rw [Array.getElem?_eq_none hge] at this; cases this

/-- The blocks of an arena. -/
def Ar.blk (A : Ar) (b : Nat) (i : Nat) : Prop := i = b ∨ i = A.gl ∨ i = A.gr ∨ i = A.gf

theorem ArAt.only {w w' : World} {b : Nat} {A : Ar} {S : Nat → Prop} (h : ArAt w b A) (k : Only S w w') (hb : ¬ S b) (hl : ¬ S A.gl) (hr : ¬ S A.gr) (hf : ¬ S A.gf) : ArAt w' b A :=
  ⟨h.c0.only k hb, h.c1.only k hb, h.c2.only k hb, fun i hi c u hu => (h.l0 i hi c u hu).only k hl, fun i hi => (h.l1 i hi).only k hl, fun i hi => (h.l2 i hi).only k hl, fun i hi => (h.l3 i hi).only k hl,
    fun i hi => (h.r0 i hi).only k hr, fun i hi => (h.r1 i hi).only k hr, fun i hi => (h.r2 i hi).only k hr, (k.block _ h.gf_lt hf).trans h.f, ⟨Nat.lt_of_lt_of_le h.lr.1 k.size, Nat.lt_of_lt_of_le h.lr.2 k.size⟩,
    h.n1, h.n2, h.n3, h.n4, h.n5, h.n6, h.small, h.tc⟩

theorem ArAt.drew {w : World} {b : Nat} {A : Ar} (h : ArAt w b A) : ArAt w.drew b A := h.only ((Only.refl (fun _ => False) w).drew) id id id id
theorem ArAt.drewN {w : World} {b : Nat} {A : Ar} (h : ArAt w b A) (n : Nat) : ArAt (w.drewN n) b A := h.only ((Only.refl (fun _ => False) w).drewN n) id id id id
theorem ArAt.alloc {w : World} {b : Nat} {A : Ar} (h : ArAt w b A) (o : Obj) : ArAt (w.alloc o) b A := h.only ((Only.refl (fun _ => False) w).alloc o) id id id id

/-- A free number's place is written. -/
theorem ArAt.setf {w : World} {b : Nat} {A : Ar} (h : ArAt w b A) {i : Nat} (hi : i < A.room) (x : Int) : ArAt (w.setCell ⟨A.gf, i, none⟩ (.int .i64 x)) b { A with fr := upd A.fr i x } := by
  have far : ∀ {g o : Nat} {v : Value}, Cell w g o v → g ≠ A.gf → Cell (w.setCell ⟨A.gf, i, none⟩ (.int .i64 x)) g o v := fun hc hg => hc.far (blk_ne (Ne.symm hg)) _
  refine ⟨far h.c0 h.n3, far h.c1 h.n3, far h.c2 h.n3, fun k hk c u hu => far (h.l0 k hk c u hu) h.n5, fun k hk => far (h.l1 k hk) h.n5, fun k hk => far (h.l2 k hk) h.n5, fun k hk => far (h.l3 k hk) h.n5, fun k hk => far (h.r0 k hk) h.n6, fun k hk => far (h.r1 k hk) h.n6, fun k hk => far (h.r2 k hk) h.n6,
    ?_, by simpa [World.setCell] using h.lr, h.n1, h.n2, h.n3, h.n4, h.n5, h.n6, h.small, h.tc⟩
  have := h.f
  simp only [World.setCell, Array.getElem?_modify, if_pos, this, Option.map_some, Option.isSome_none, Bool.false_eq_true, if_false]
  congr 2
  simp only [List.setIfInBounds_toArray, freeV, Array.mk.injEq]
  apply List.ext_getElem?
  intro k
  rw [List.getElem?_set]
  by_cases hk : i = k
  · subst hk
    simp [hi, upd]
  · rw [if_neg hk]
    by_cases hkr : k < A.room
    · simp [hkr, upd, Ne.symm hk]
    · simp [hkr]

/-- How many are free is written. -/
theorem ArAt.setn {w : World} {b : Nat} {A : Ar} (h : ArAt w b A) {n : Nat} (hn : n ≤ A.room) : ArAt (w.setCell ⟨b, 2, none⟩ (.slice (some ⟨A.gf, 0, none⟩) n A.room)) b { A with nf := n } := by
  have far : ∀ {g o : Nat} {v : Value}, Cell w g o v → b ≠ g → Cell (w.setCell ⟨b, 2, none⟩ (.slice (some ⟨A.gf, 0, none⟩) n A.room)) g o v := fun hc hg => hc.far (blk_ne hg) _
  refine ⟨h.c0.far (off_ne (by omega)) _, h.c1.far (off_ne (by omega)) _, h.c2.set _, fun k hk c u hu => far (h.l0 k hk c u hu) h.n1, fun k hk => far (h.l1 k hk) h.n1, fun k hk => far (h.l2 k hk) h.n1, fun k hk => far (h.l3 k hk) h.n1, fun k hk => far (h.r0 k hk) h.n2, fun k hk => far (h.r1 k hk) h.n2, fun k hk => far (h.r2 k hk) h.n2,
    ?_, by simpa [World.setCell] using h.lr, h.n1, h.n2, h.n3, h.n4, h.n5, h.n6, ⟨h.small.1, h.small.2.1, hn⟩, h.tc⟩
  exact (Below.heap_setCell w _ _ A.gf (Ne.symm h.n3)).trans h.f
end Od
end Go.Proofs.Ytilngakgofjmpaa

/- Slots: give, walked. Conditions: an arena as New lays it, with a place for the number. -/
namespace Go.Proofs.Ytilngakgofjmpaa
set_option linter.unusedVariables false
set_option linter.unusedSimpArgs false
namespace Od
open Go.RowKit

--<shared>
theorem Try.infoInt : (Try.prog.info? 3).map (fun i => (i.zero, i.size, i.bytes)) = some (some (.int .i64 0), 1, 8) := by kernel_rfl

set_option maxRecDepth 100000 in
/-- The append of one number, where there is room. -/
theorem free_append {w : World} {b : Nat} {A : Ar} (h : ArAt w b A) (hn : A.nf < A.room) (n : Int) (a : Addr) (ha : w.cell? a = some (.int .i64 n)) :
    ∃ w', (Builtin.append_ #[197, 197] 197 #[.slice (some ⟨A.gf, 0, none⟩) A.nf A.room, .slice (some a) 1 1]).run Try.prog w = .ok (.slice (some ⟨A.gf, 0, none⟩) (A.nf + 1) A.room) w' ∧
      ArAt w' b { A with fr := upd A.fr A.nf n } ∧ Only (· = A.gf) w w' := by
  obtain ⟨i0, hi, hz0, hz1, hz2⟩ := info_parts Try.infoInt
  have hrun := run_append_room (P := Try.prog) (w := w) 197 197 3 i0 Try.underlying197 hi A.gf A.nf A.room (freeV A).toArray h.f a 1 1 [.int .i64 n] (by rw [hz1]; rfl)
    (fun j u hj => by
      cases j with
      | zero => simp at hj; subst hj; simpa [Addr.add] using ha
      | succ j => simp at hj) (by simp [Value.oneCell']) (by omega) (by rw [hz1]; simp [freeV]; omega)
  refine ⟨_, hrun, ?_, ?_⟩
  · have e : w.setRow A.gf (((freeV A).toArray.toList.take (A.nf * i0.size) ++ [Value.int .i64 n] ++ (freeV A).toArray.toList.drop (A.nf * i0.size + [Value.int .i64 n].length)).toArray) = w.setCell ⟨A.gf, A.nf, none⟩ (.int .i64 n) := by
      unfold World.setRow World.setCell
      simp only [hz1, Nat.mul_one, List.length_cons, List.length_nil, Nat.zero_add]
      congr 1
      apply Array.ext_getElem?
      intro k
      rw [Array.getElem?_modify, Array.getElem?_modify]
      by_cases hk : A.gf = k
      · subst hk
        simp only [if_pos, h.f, Option.map_some, Option.isSome_none, Bool.false_eq_true, if_false]
        congr 2
        simp only [List.setIfInBounds_toArray, Array.mk.injEq]
        apply List.ext_getElem?
        intro k
        have hl : (freeV A).length = A.room := by simp [freeV]
        rw [List.getElem?_set]
        by_cases hk : A.nf = k
        · subst hk
          rw [if_pos rfl, if_pos (by omega), List.append_assoc, List.getElem?_append_right (by rw [List.length_take]; omega)]
          simp [List.length_take, hl, show min A.nf A.room = A.nf by omega]
        · rw [if_neg hk]
          rcases Nat.lt_or_ge k A.nf with hlt | hge
          · rw [List.append_assoc, List.getElem?_append_left (by rw [List.length_take]; omega), List.getElem?_take_of_lt hlt]
          · rw [List.getElem?_append_right (by simp [hl]; omega), List.getElem?_drop]
            congr 1
            simp [hl, show min A.nf A.room = A.nf by omega]
            omega
      · simp only [if_neg hk]
    rw [e]
    exact h.setf hn n
  · refine ⟨rfl, rfl, rfl, by simp [World.setRow], fun k hk hne => ?_⟩
    unfold World.setRow
    simp only [Array.getElem?_modify]
    rw [if_neg (fun e => hne e.symm)]

--</shared>
set_option maxHeartbeats 1000000 in
set_option maxRecDepth 100000 in
theorem s_give (w : World) (b : Nat) (A : Ar) (n : Int) (h : ArAt w b A) (hn : A.nf < A.room) :
    Calls Try.prog 130 #[.pointer (some ⟨b, 0, none⟩), .int .i64 n] w fun e w' => e = .returned (.tuple #[]) ∧ ArAt w' b (A.give n) ∧ Only (fun i => i = b ∨ i = A.gf) w w' := by
  have h1 : ArAt (w.alloc (.cells #[.int .i64 n] 3)) b A := h.only ((Only.refl (fun _ => False) w).alloc _) id id id id
  obtain ⟨w2, hap, h2, o2⟩ := free_append h1 hn n ⟨w.heap.size, 0, none⟩ (by simp)
  have HAP := Lib.hid hap
  clear hap
  have c2 := h.c2.cell
  have hlt := h.c2.lt
  have d2 := h2.c2.cell
  have e2 := h2.c2.free
  have hs := h.small
  go_enter Try.func130, Try.ntmps130
  go_wp2_with (at_builtin; go_must (refine wpList_append_run rfl _ _ 197 rfl _ _ _ rfl rfl HAP.out ?_))
  clear HAP
  have hz2 : ArAt (w2.setCell ⟨b, 2, none⟩ (.slice (some ⟨A.gf, 0, none⟩) (A.nf + 1) A.room)) b { A with nf := A.nf + 1, fr := upd A.fr A.nf n } := h2.setn (by simp only; omega)
  have o3 : Only (fun i => i = b ∨ i = A.gf) w (w2.setCell ⟨b, 2, none⟩ (.slice (some ⟨A.gf, 0, none⟩) (A.nf + 1) A.room)) := by
    refine Only.setCell ?_ (.inl (.inl rfl)) _
    exact Only.trans (by repeat' (first | (with_reducible exact Only.refl _ _) | (with_reducible assumption) | (refine Only.of_none ?_; with_reducible assumption) | (with_reducible refine Only.drewN ?_ _) | (with_reducible refine Only.drew ?_) | (with_reducible refine Only.alloc ?_ _) | (with_reducible refine Only.setCell ?_ ?_ _) | (with_reducible refine Only.then0 ?_ (by with_reducible assumption)) | (with_reducible refine Only.thenN ?_ (by with_reducible assumption) ?_) | (with_reducible refine Only.trans ?_ (by with_reducible assumption)) | (refine .inl ?_; first | rfl | (simp; done) | (simp [Ar.blk]; done)) | (refine .inr ?_; first | omega | (simp; done) | (simp; omega) | exact Only.size (by with_reducible assumption) | (refine Nat.le_trans (Only.size (by with_reducible assumption)) ?_; simp; done)))) (o2.mono fun _ _ h => .inr h)
  go_loopw [4, 5] (fun i u wr => ∃ (k : Nat) (f : Nat → Int), i = .int .i64 k ∧ k < A.nf + 1 ∧ siftUp (A.nf + 1) f k = siftUp (A.nf + 1) (upd A.fr A.nf n) A.nf ∧ ArAt wr b { A with nf := A.nf + 1, fr := f } ∧ Only (fun i => i = b ∨ i = A.gf) w wr)
    (fun i _ _ => (intOf i).toNat)
  case atStart => exact ⟨A.nf, _, by go_num, by omega, rfl, hz2, o3⟩
  case round =>
    obtain ⟨k, f, rfl, hk, hsift, hA, ho⟩ := hrel
    have c2r := hA.c2.cell
    have hbr := hA.c2.lt
    have hgr := hA.gf_lt
    clear d2 e2 h1 h2 hz2 o2 o3 c2
    by_cases k0 : k = 0
    · subst k0
      have hfin : A.give n = { A with nf := A.nf + 1, fr := f } := by unfold Ar.give; rw [← hsift]; simp [siftUp]
      have HF := Lib.hid hfin
      have HAr := Lib.hid hA
      clear hsift hfin hA
      go_wp2
      go_returns
      exact ⟨rfl, by rw [HF.out]; exact HAr.out, by repeat' (first | (with_reducible exact Only.refl _ _) | (with_reducible assumption) | (refine Only.of_none ?_; with_reducible assumption) | (with_reducible refine Only.drewN ?_ _) | (with_reducible refine Only.drew ?_) | (with_reducible refine Only.alloc ?_ _) | (with_reducible refine Only.setCell ?_ ?_ _) | (with_reducible refine Only.then0 ?_ (by with_reducible assumption)) | (with_reducible refine Only.thenN ?_ (by with_reducible assumption) ?_) | (with_reducible refine Only.trans ?_ (by with_reducible assumption)) | (refine .inl ?_; first | rfl | (simp; done) | (simp [Ar.blk]; done)) | (refine .inr ?_; first | omega | (simp; done) | (simp; omega) | exact Only.size (by with_reducible assumption) | (refine Nat.le_trans (Only.size (by with_reducible assumption)) ?_; simp; done)))⟩
    · obtain ⟨u, hu⟩ : ∃ u, u = (k - 1) / 2 := ⟨_, rfl⟩
      have hup : ((k : Int) - 1) / 2 = ((u : Nat) : Int) := by omega
      have huk : u < k := by omega
      have hk1 : 1 ≤ k := by omega
      have fu := (hA.fc (i := u) (by simp only; omega)).cell
      have fk := (hA.fc (i := k) (by simp only; omega)).cell
      have pu := (hA.fc (i := u) (by simp only; omega)).free
      have pk := (hA.fc (i := k) (by simp only; omega)).free
      simp only at fu fk pu pk c2r hgr
      by_cases hc : f u < f k
      · have hfin : A.give n = { A with nf := A.nf + 1, fr := f } := by unfold Ar.give; rw [← hsift]; simp [siftUp, k0, ← hu, hc]
        have HF := Lib.hid hfin
        have HAr := Lib.hid hA
        clear hsift hfin hA hu k0
        generalize f u = xu at *
        generalize f k = xk at *
        go_wp2
        go_quiet (fail)
        go_wp2
        go_returns
        exact ⟨rfl, by rw [HF.out]; exact HAr.out.drewN _, by repeat' (first | (with_reducible exact Only.refl _ _) | (with_reducible assumption) | (refine Only.of_none ?_; with_reducible assumption) | (with_reducible refine Only.drewN ?_ _) | (with_reducible refine Only.drew ?_) | (with_reducible refine Only.alloc ?_ _) | (with_reducible refine Only.setCell ?_ ?_ _) | (with_reducible refine Only.then0 ?_ (by with_reducible assumption)) | (with_reducible refine Only.thenN ?_ (by with_reducible assumption) ?_) | (with_reducible refine Only.trans ?_ (by with_reducible assumption)) | (refine .inl ?_; first | rfl | (simp; done) | (simp [Ar.blk]; done)) | (refine .inr ?_; first | omega | (simp; done) | (simp; omega) | exact Only.size (by with_reducible assumption) | (refine Nat.le_trans (Only.size (by with_reducible assumption)) ?_; simp; done)))⟩
      · have hnx : siftUp (A.nf + 1) f k = siftUp (A.nf + 1) (swp f u k) u := by
          rw [show siftUp (A.nf + 1) f k = siftUp A.nf (swp f u k) u by simp [siftUp, k0, ← hu, hc]]
          exact siftUp_more _ _ _ _ (by omega) (by omega)
        have hc' : f k ≤ f u := by omega
        have HSW := fun W (hW : ArAt W b { A with nf := A.nf + 1, fr := f }) => Lib.hid ((hW.setf (i := u) (by simp only; omega) (f k)).setf (i := k) (by simp only; omega) (f u))
        have HN := Lib.hid (hnx.symm.trans hsift)
        have HAr := Lib.hid hA
        have HSI := Lib.hid hup
        clear hsift hnx hA hu k0 hc
        generalize hxu : f u = xu at *
        generalize hxk : f k = xk at *
        have HXU := Lib.hid hxu
        have HXK := Lib.hid hxk
        clear hxu hxk
        go_wp2
        go_quiet (fail)
        go_wp2
        go_region
        go_wp2
        go_roundw
        case rel =>
          refine ⟨u, swp f u k, rfl, by omega, HN.out, ?_, by repeat' (first | (with_reducible exact Only.refl _ _) | (with_reducible assumption) | (refine Only.of_none ?_; with_reducible assumption) | (with_reducible refine Only.drewN ?_ _) | (with_reducible refine Only.drew ?_) | (with_reducible refine Only.alloc ?_ _) | (with_reducible refine Only.setCell ?_ ?_ _) | (with_reducible refine Only.then0 ?_ (by with_reducible assumption)) | (with_reducible refine Only.thenN ?_ (by with_reducible assumption) ?_) | (with_reducible refine Only.trans ?_ (by with_reducible assumption)) | (refine .inl ?_; first | rfl | (simp; done) | (simp [Ar.blk]; done)) | (refine .inr ?_; first | omega | (simp; done) | (simp; omega) | exact Only.size (by with_reducible assumption) | (refine Nat.le_trans (Only.size (by with_reducible assumption)) ?_; simp; done)))⟩
          have := (HSW _ (HAr.out.drewN (nq + 1))).out
          rw [← HXU.out, ← HXK.out] at this ⊢
          exact this
        case measure => simp [intOf]; omega
end Od
end Go.Proofs.Ytilngakgofjmpaa

/- Slots: least, walked. Conditions: an arena as New lays it, with a free number. -/
namespace Go.Proofs.Ytilngakgofjmpaa
set_option linter.unusedVariables false
set_option linter.unusedSimpArgs false
namespace Od
open Go.RowKit

set_option maxHeartbeats 4000000 in
set_option maxRecDepth 100000 in
theorem s_least (w : World) (b : Nat) (A : Ar) (h : ArAt w b A) (hn : 0 < A.nf) :
    Calls Try.prog 128 #[.pointer (some ⟨b, 0, none⟩)] w fun e w' => e = .returned (.int .i64 (A.fr 0)) ∧ ArAt w' b A.least ∧ Only (fun i => i = b ∨ i = A.gf) w w' := by
  have hs := h.small
  obtain ⟨e, he⟩ : ∃ e, A.nf = e + 1 := ⟨A.nf - 1, by omega⟩
  have hr1 : 0 < A.room := by omega
  have c2 := h.c2.cell
  have e2 := h.c2.free
  have hlt := h.c2.lt
  have hgf := h.gf_lt
  have f0 := (h.fc (i := 0) (by omega)).cell
  have p0 := (h.fc (i := 0) (by omega)).free
  have fe := (h.fc (i := e) (by omega)).cell
  rw [he] at c2
  have H1 := Lib.hid (fun W (hW : ArAt W b A) => (hW.setf (i := 0) (by omega) (A.fr e)).setn (n := e) (by simp only; omega))
  have hl : A.least = { A with nf := e, fr := siftDown (e + 1) (upd A.fr 0 (A.fr e)) 0 e } := by unfold Ar.least; rw [he]; rfl
  have HL := Lib.hid hl
  have HAr := Lib.hid h
  have he16 : e < 65536 := by omega
  have her : e < A.room := by omega
  have HE := Lib.hid he
  obtain ⟨F0, hF0⟩ : ∃ F, F = upd A.fr 0 (A.fr e) := ⟨_, rfl⟩
  rw [← hF0] at H1 HL
  clear h hl he hn hF0
  generalize hx0 : A.fr 0 = x0 at *
  generalize hxe : A.fr e = xe at *
  clear hx0 hxe
  simp only at H1
  go_enter Try.func128, Try.ntmps128
  go_wp2
  go_quiet (fail)
  go_wp2
  go_region
  go_wp2
  go_loopw [5, 6] (fun i u wr => ∃ (k : Nat) (f : Nat → Int), i = .int .i64 k ∧ k ≤ e ∧ siftDown (e + 1) f k e = siftDown (e + 1) F0 0 e ∧ ArAt wr b { A with nf := e, fr := f } ∧ Only (fun i => i = b ∨ i = A.gf) w wr)
    (fun i _ _ => e - (intOf i).toNat)
  case atStart => exact ⟨0, F0, rfl, by omega, rfl, H1.out _ (HAr.out.drewN _), by repeat' (first | (with_reducible exact Only.refl _ _) | (with_reducible assumption) | (refine Only.of_none ?_; with_reducible assumption) | (with_reducible refine Only.drewN ?_ _) | (with_reducible refine Only.drew ?_) | (with_reducible refine Only.alloc ?_ _) | (with_reducible refine Only.setCell ?_ ?_ _) | (with_reducible refine Only.then0 ?_ (by with_reducible assumption)) | (with_reducible refine Only.thenN ?_ (by with_reducible assumption) ?_) | (with_reducible refine Only.trans ?_ (by with_reducible assumption)) | (refine .inl ?_; first | rfl | (simp; done) | (simp [Ar.blk]; done)) | (refine .inr ?_; first | omega | (simp; done) | (simp; omega) | exact Only.size (by with_reducible assumption) | (refine Nat.le_trans (Only.size (by with_reducible assumption)) ?_; simp; done)))⟩
  case round =>
    obtain ⟨k, f, rfl, hk, hsift, hA, ho⟩ := hrel
    have c2r := hA.c2.cell
    have hbr := hA.c2.lt
    have hgr := hA.gf_lt
    clear c2 e2 f0 p0 fe H1 HAr
    simp only at c2r hgr
    have hw2 : IntKind.i64.wrap (2 * (k : Int) + 1 + 1) = 2 * (k : Int) + 2 := by rw [IntKind.wrap_i64]; omega
    by_cases c1 : 2 * k + 2 < e
    · have f1 := (hA.fc (i := 2 * k + 1) (by simp only; omega)).cell
      have f2 := (hA.fc (i := 2 * k + 2) (by simp only; omega)).cell
      have fk := (hA.fc (i := k) (by simp only; omega)).cell
      have p1 := (hA.fc (i := 2 * k + 1) (by simp only; omega)).free
      have p2 := (hA.fc (i := 2 * k + 2) (by simp only; omega)).free
      have pk := (hA.fc (i := k) (by simp only; omega)).free
      simp only at f1 f2 fk p1 p2 pk
      have i1 : (2 * (k : Int) + 2).toNat = 2 * k + 2 := by omega
      have i2 : (2 * (k : Int) + 1).toNat = 2 * k + 1 := by omega
      have i3 : 2 * (k : Int) + 2 < (e : Int) := by omega
      have i6 : (k : Int) < (e : Int) := by omega
      have i7 : decide ((e : Int) ≤ 2 * (k : Int) + 2) = false := by simp; omega
      have i8 : decide ((e : Int) ≤ 2 * (k : Int) + 1) = false := by simp; omega
      by_cases t1 : f (2 * k + 2) < f (2 * k + 1)
      · have hd : down f k e = 2 * k + 2 := by simp [down, c1, t1]
        by_cases t2 : f k < f (2 * k + 2)
        · have hstop : e ≤ 2 * k + 2 ∨ f k < f (2 * k + 2) := by first | exact .inr ‹_› | exact .inl (by omega)
          have HF := Lib.hid (show A.least = { A with nf := e, fr := f } by rw [HL.out, ← hsift]; simp only [siftDown, hd]; rw [if_pos hstop])
          have HAr := Lib.hid hA
          clear hsift hA HL hd hstop
          as_aux_lemma =>
            go_wp2
            go_quiet (fail)
            go_wp2
            go_quiet (fail)
            go_wp2
            go_returns
            exact ⟨rfl, by rw [HF.out]; (repeat (first | (with_reducible refine ArAt.drew ?_) | (with_reducible refine ArAt.drewN ?_ _) | (with_reducible refine ArAt.alloc ?_ _))); exact HAr.out, by repeat' (first | (with_reducible exact Only.refl _ _) | (with_reducible assumption) | (refine Only.of_none ?_; with_reducible assumption) | (with_reducible refine Only.drewN ?_ _) | (with_reducible refine Only.drew ?_) | (with_reducible refine Only.alloc ?_ _) | (with_reducible refine Only.setCell ?_ ?_ _) | (with_reducible refine Only.then0 ?_ (by with_reducible assumption)) | (with_reducible refine Only.thenN ?_ (by with_reducible assumption) ?_) | (with_reducible refine Only.trans ?_ (by with_reducible assumption)) | (refine .inl ?_; first | rfl | (simp; done) | (simp [Ar.blk]; done)) | (refine .inr ?_; first | omega | (simp; done) | (simp; omega) | exact Only.size (by with_reducible assumption) | (refine Nat.le_trans (Only.size (by with_reducible assumption)) ?_; simp; done)))⟩
        · have hgo : ¬ (e ≤ 2 * k + 2 ∨ f k < f (2 * k + 2)) := by omega
          have hnx : siftDown (e + 1) f k e = siftDown (e + 1) (swp f k (2 * k + 2)) (2 * k + 2) e := by
            rw [show siftDown (e + 1) f k e = siftDown e (swp f k (2 * k + 2)) (2 * k + 2) e by simp only [siftDown, hd]; rw [if_neg hgo]]
            exact siftDown_more _ _ _ _ _ (by omega) (by omega) (by omega) (by omega)
          have HSW := fun W (hW : ArAt W b { A with nf := e, fr := f }) => Lib.hid ((hW.setf (i := k) (by simp only; omega) (f (2 * k + 2))).setf (i := 2 * k + 2) (by simp only; omega) (f k))
          have HN := Lib.hid (hnx.symm.trans hsift)
          have HAr := Lib.hid hA
          clear hsift hnx hA HL hd hgo
          as_aux_lemma =>
            go_wp2
            go_quiet (fail)
            go_wp2
            go_quiet (fail)
            go_wp2
            go_region
            go_wp2
            go_roundw
            case rel =>
              refine ⟨2 * k + 2, swp f k (2 * k + 2), by go_num, by omega, HN.out, ?_, by repeat' (first | (with_reducible exact Only.refl _ _) | (with_reducible assumption) | (refine Only.of_none ?_; with_reducible assumption) | (with_reducible refine Only.drewN ?_ _) | (with_reducible refine Only.drew ?_) | (with_reducible refine Only.alloc ?_ _) | (with_reducible refine Only.setCell ?_ ?_ _) | (with_reducible refine Only.then0 ?_ (by with_reducible assumption)) | (with_reducible refine Only.thenN ?_ (by with_reducible assumption) ?_) | (with_reducible refine Only.trans ?_ (by with_reducible assumption)) | (refine .inl ?_; first | rfl | (simp; done) | (simp [Ar.blk]; done)) | (refine .inr ?_; first | omega | (simp; done) | (simp; omega) | exact Only.size (by with_reducible assumption) | (refine Nat.le_trans (Only.size (by with_reducible assumption)) ?_; simp; done)))⟩
              exact (HSW _ (by (repeat (first | (with_reducible refine ArAt.drew ?_) | (with_reducible refine ArAt.drewN ?_ _) | (with_reducible refine ArAt.alloc ?_ _))); exact HAr.out)).out
            case measure => simp [intOf]; omega
      · have hd : down f k e = 2 * k + 1 := by simp [down, t1]
        have t1' : f (2 * k + 1) ≤ f (2 * k + 2) := by omega
        by_cases t2 : f k < f (2 * k + 1)
        · have hstop : e ≤ 2 * k + 1 ∨ f k < f (2 * k + 1) := by first | exact .inr ‹_› | exact .inl (by omega)
          have HF := Lib.hid (show A.least = { A with nf := e, fr := f } by rw [HL.out, ← hsift]; simp only [siftDown, hd]; rw [if_pos hstop])
          have HAr := Lib.hid hA
          clear hsift hA HL hd hstop
          as_aux_lemma =>
            go_wp2
            go_quiet (fail)
            go_wp2
            go_quiet (fail)
            go_wp2
            go_returns
            exact ⟨rfl, by rw [HF.out]; (repeat (first | (with_reducible refine ArAt.drew ?_) | (with_reducible refine ArAt.drewN ?_ _) | (with_reducible refine ArAt.alloc ?_ _))); exact HAr.out, by repeat' (first | (with_reducible exact Only.refl _ _) | (with_reducible assumption) | (refine Only.of_none ?_; with_reducible assumption) | (with_reducible refine Only.drewN ?_ _) | (with_reducible refine Only.drew ?_) | (with_reducible refine Only.alloc ?_ _) | (with_reducible refine Only.setCell ?_ ?_ _) | (with_reducible refine Only.then0 ?_ (by with_reducible assumption)) | (with_reducible refine Only.thenN ?_ (by with_reducible assumption) ?_) | (with_reducible refine Only.trans ?_ (by with_reducible assumption)) | (refine .inl ?_; first | rfl | (simp; done) | (simp [Ar.blk]; done)) | (refine .inr ?_; first | omega | (simp; done) | (simp; omega) | exact Only.size (by with_reducible assumption) | (refine Nat.le_trans (Only.size (by with_reducible assumption)) ?_; simp; done)))⟩
        · have hgo : ¬ (e ≤ 2 * k + 1 ∨ f k < f (2 * k + 1)) := by omega
          have hnx : siftDown (e + 1) f k e = siftDown (e + 1) (swp f k (2 * k + 1)) (2 * k + 1) e := by
            rw [show siftDown (e + 1) f k e = siftDown e (swp f k (2 * k + 1)) (2 * k + 1) e by simp only [siftDown, hd]; rw [if_neg hgo]]
            exact siftDown_more _ _ _ _ _ (by omega) (by omega) (by omega) (by omega)
          have HSW := fun W (hW : ArAt W b { A with nf := e, fr := f }) => Lib.hid ((hW.setf (i := k) (by simp only; omega) (f (2 * k + 1))).setf (i := 2 * k + 1) (by simp only; omega) (f k))
          have HN := Lib.hid (hnx.symm.trans hsift)
          have HAr := Lib.hid hA
          clear hsift hnx hA HL hd hgo
          as_aux_lemma =>
            go_wp2
            go_quiet (fail)
            go_wp2
            go_quiet (fail)
            go_wp2
            go_region
            go_wp2
            go_roundw
            case rel =>
              refine ⟨2 * k + 1, swp f k (2 * k + 1), by go_num, by omega, HN.out, ?_, by repeat' (first | (with_reducible exact Only.refl _ _) | (with_reducible assumption) | (refine Only.of_none ?_; with_reducible assumption) | (with_reducible refine Only.drewN ?_ _) | (with_reducible refine Only.drew ?_) | (with_reducible refine Only.alloc ?_ _) | (with_reducible refine Only.setCell ?_ ?_ _) | (with_reducible refine Only.then0 ?_ (by with_reducible assumption)) | (with_reducible refine Only.thenN ?_ (by with_reducible assumption) ?_) | (with_reducible refine Only.trans ?_ (by with_reducible assumption)) | (refine .inl ?_; first | rfl | (simp; done) | (simp [Ar.blk]; done)) | (refine .inr ?_; first | omega | (simp; done) | (simp; omega) | exact Only.size (by with_reducible assumption) | (refine Nat.le_trans (Only.size (by with_reducible assumption)) ?_; simp; done)))⟩
              exact (HSW _ (by (repeat (first | (with_reducible refine ArAt.drew ?_) | (with_reducible refine ArAt.drewN ?_ _) | (with_reducible refine ArAt.alloc ?_ _))); exact HAr.out)).out
            case measure => simp [intOf]; omega
    · have hd : down f k e = 2 * k + 1 := by simp [down, c1]
      have i2 : (2 * (k : Int) + 1).toNat = 2 * k + 1 := by omega
      have i4 : decide (2 * (k : Int) + 2 < (e : Int)) = false := by simp; omega
      by_cases c2 : 2 * k + 1 < e
      · have f1 := (hA.fc (i := 2 * k + 1) (by simp only; omega)).cell
        have fk := (hA.fc (i := k) (by simp only; omega)).cell
        have p1 := (hA.fc (i := 2 * k + 1) (by simp only; omega)).free
        have pk := (hA.fc (i := k) (by simp only; omega)).free
        simp only at f1 fk p1 pk
        have i3 : 2 * (k : Int) + 1 < (e : Int) := by omega
        have i6 : (k : Int) < (e : Int) := by omega
        have i8 : decide ((e : Int) ≤ 2 * (k : Int) + 1) = false := by simp; omega
        by_cases t2 : f k < f (2 * k + 1)
        · have hstop : e ≤ 2 * k + 1 ∨ f k < f (2 * k + 1) := by first | exact .inr ‹_› | exact .inl (by omega)
          have HF := Lib.hid (show A.least = { A with nf := e, fr := f } by rw [HL.out, ← hsift]; simp only [siftDown, hd]; rw [if_pos hstop])
          have HAr := Lib.hid hA
          clear hsift hA HL hd hstop
          as_aux_lemma =>
            go_wp2
            go_quiet (fail)
            go_wp2
            go_quiet (fail)
            go_wp2
            go_returns
            exact ⟨rfl, by rw [HF.out]; (repeat (first | (with_reducible refine ArAt.drew ?_) | (with_reducible refine ArAt.drewN ?_ _) | (with_reducible refine ArAt.alloc ?_ _))); exact HAr.out, by repeat' (first | (with_reducible exact Only.refl _ _) | (with_reducible assumption) | (refine Only.of_none ?_; with_reducible assumption) | (with_reducible refine Only.drewN ?_ _) | (with_reducible refine Only.drew ?_) | (with_reducible refine Only.alloc ?_ _) | (with_reducible refine Only.setCell ?_ ?_ _) | (with_reducible refine Only.then0 ?_ (by with_reducible assumption)) | (with_reducible refine Only.thenN ?_ (by with_reducible assumption) ?_) | (with_reducible refine Only.trans ?_ (by with_reducible assumption)) | (refine .inl ?_; first | rfl | (simp; done) | (simp [Ar.blk]; done)) | (refine .inr ?_; first | omega | (simp; done) | (simp; omega) | exact Only.size (by with_reducible assumption) | (refine Nat.le_trans (Only.size (by with_reducible assumption)) ?_; simp; done)))⟩
        · have hgo : ¬ (e ≤ 2 * k + 1 ∨ f k < f (2 * k + 1)) := by omega
          have hnx : siftDown (e + 1) f k e = siftDown (e + 1) (swp f k (2 * k + 1)) (2 * k + 1) e := by
            rw [show siftDown (e + 1) f k e = siftDown e (swp f k (2 * k + 1)) (2 * k + 1) e by simp only [siftDown, hd]; rw [if_neg hgo]]
            exact siftDown_more _ _ _ _ _ (by omega) (by omega) (by omega) (by omega)
          have HSW := fun W (hW : ArAt W b { A with nf := e, fr := f }) => Lib.hid ((hW.setf (i := k) (by simp only; omega) (f (2 * k + 1))).setf (i := 2 * k + 1) (by simp only; omega) (f k))
          have HN := Lib.hid (hnx.symm.trans hsift)
          have HAr := Lib.hid hA
          clear hsift hnx hA HL hd hgo
          as_aux_lemma =>
            go_wp2
            go_quiet (fail)
            go_wp2
            go_quiet (fail)
            go_wp2
            go_region
            go_wp2
            go_roundw
            case rel =>
              refine ⟨2 * k + 1, swp f k (2 * k + 1), by go_num, by omega, HN.out, ?_, by repeat' (first | (with_reducible exact Only.refl _ _) | (with_reducible assumption) | (refine Only.of_none ?_; with_reducible assumption) | (with_reducible refine Only.drewN ?_ _) | (with_reducible refine Only.drew ?_) | (with_reducible refine Only.alloc ?_ _) | (with_reducible refine Only.setCell ?_ ?_ _) | (with_reducible refine Only.then0 ?_ (by with_reducible assumption)) | (with_reducible refine Only.thenN ?_ (by with_reducible assumption) ?_) | (with_reducible refine Only.trans ?_ (by with_reducible assumption)) | (refine .inl ?_; first | rfl | (simp; done) | (simp [Ar.blk]; done)) | (refine .inr ?_; first | omega | (simp; done) | (simp; omega) | exact Only.size (by with_reducible assumption) | (refine Nat.le_trans (Only.size (by with_reducible assumption)) ?_; simp; done)))⟩
              exact (HSW _ (by (repeat (first | (with_reducible refine ArAt.drew ?_) | (with_reducible refine ArAt.drewN ?_ _) | (with_reducible refine ArAt.alloc ?_ _))); exact HAr.out)).out
            case measure => simp [intOf]; omega
      · have i5 : decide ((e : Int) ≤ 2 * (k : Int) + 1) = true := by simp; omega
        have hstop : e ≤ 2 * k + 1 ∨ f k < f (2 * k + 1) := by first | exact .inr ‹_› | exact .inl (by omega)
        have HF := Lib.hid (show A.least = { A with nf := e, fr := f } by rw [HL.out, ← hsift]; simp only [siftDown, hd]; rw [if_pos hstop])
        have HAr := Lib.hid hA
        clear hsift hA HL hd hstop
        as_aux_lemma =>
          go_wp2
          go_quiet (fail)
          go_wp2
          go_quiet (fail)
          go_wp2
          go_returns
          exact ⟨rfl, by rw [HF.out]; (repeat (first | (with_reducible refine ArAt.drew ?_) | (with_reducible refine ArAt.drewN ?_ _) | (with_reducible refine ArAt.alloc ?_ _))); exact HAr.out, by repeat' (first | (with_reducible exact Only.refl _ _) | (with_reducible assumption) | (refine Only.of_none ?_; with_reducible assumption) | (with_reducible refine Only.drewN ?_ _) | (with_reducible refine Only.drew ?_) | (with_reducible refine Only.alloc ?_ _) | (with_reducible refine Only.setCell ?_ ?_ _) | (with_reducible refine Only.then0 ?_ (by with_reducible assumption)) | (with_reducible refine Only.thenN ?_ (by with_reducible assumption) ?_) | (with_reducible refine Only.trans ?_ (by with_reducible assumption)) | (refine .inl ?_; first | rfl | (simp; done) | (simp [Ar.blk]; done)) | (refine .inr ?_; first | omega | (simp; done) | (simp; omega) | exact Only.size (by with_reducible assumption) | (refine Nat.le_trans (Only.size (by with_reducible assumption)) ?_; simp; done)))⟩
end Od
end Go.Proofs.Ytilngakgofjmpaa

/- Slots: what a store into a link or a row does to an arena. No condition. -/
namespace Go.Proofs.Ytilngakgofjmpaa
set_option linter.unusedVariables false
set_option linter.unusedSimpArgs false
namespace Od
open Go.RowKit

/-- A thing of five cells is written. -/
def put5 (w : World) (g o : Nat) (a0 a1 a2 a3 a4 : Value) : World := ((((w.setCell ⟨g, o, none⟩ a0).setCell ⟨g, o + 1, none⟩ a1).setCell ⟨g, o + 2, none⟩ a2).setCell ⟨g, o + 3, none⟩ a3).setCell ⟨g, o + 4, none⟩ a4
theorem ArAt.set_th {w : World} {b : Nat} {A : Ar} (h : ArAt w b A) {i : Nat} (hi : i < A.room) (a0 a1 a2 a3 a4 : Value) : ArAt (put5 w A.gl (i * 8) a0 a1 a2 a3 a4) b { A with th := upd A.th i (.agg #[a0, a1, a2, a3, a4]) } := by
  have farb : ∀ {g o : Nat} {v : Value}, Cell w g o v → A.gl ≠ g → Cell (put5 w A.gl (i * 8) a0 a1 a2 a3 a4) g o v := fun hc hg => ((((hc.far (blk_ne hg) _).far (blk_ne hg) _).far (blk_ne hg) _).far (blk_ne hg) _).far (blk_ne hg) _
  have faro : ∀ {o : Nat} {v : Value}, Cell w A.gl o v → (o < i * 8 ∨ i * 8 + 5 ≤ o) → Cell (put5 w A.gl (i * 8) a0 a1 a2 a3 a4) A.gl o v := fun hc hg => ((((hc.far (off_ne (by omega)) _).far (off_ne (by omega)) _).far (off_ne (by omega)) _).far (off_ne (by omega)) _).far (off_ne (by omega)) _
  have hs : (A.th i).cells.size = 5 := h.tc i hi
  have old : ∀ c, c < 5 → ∃ u, Cell w A.gl (i * 8 + c) u := fun c hc => ⟨_, h.l0 i hi c _ (Array.getElem?_eq_getElem (by rw [hs]; exact hc))⟩
  refine ⟨farb h.c0 (Ne.symm h.n1), farb h.c1 (Ne.symm h.n1), farb h.c2 (Ne.symm h.n1), fun k hk c u hu => ?_, fun k hk => faro (h.l1 k hk) (by omega), fun k hk => faro (h.l2 k hk) (by omega), fun k hk => faro (h.l3 k hk) (by omega), fun k hk => farb (h.r0 k hk) h.n4, fun k hk => farb (h.r1 k hk) h.n4, fun k hk => farb (h.r2 k hk) h.n4,
    ?_, by simpa [put5, World.setCell] using h.lr, h.n1, h.n2, h.n3, h.n4, h.n5, h.n6, h.small, fun k hk => ?_⟩
  · by_cases e : k = i
    · subst e
      simp only [upd_same, Value.cells] at hu
      obtain ⟨u0, o0⟩ := old 0 (by decide)
      obtain ⟨u1, o1⟩ := old 1 (by decide)
      obtain ⟨u2, o2⟩ := old 2 (by decide)
      obtain ⟨u3, o3⟩ := old 3 (by decide)
      obtain ⟨u4, o4⟩ := old 4 (by decide)
      match c, hu with
      | 0, hu => cases hu; exact ((((o0.set _).far (off_ne (by omega)) _).far (off_ne (by omega)) _).far (off_ne (by omega)) _).far (off_ne (by omega)) _
      | 1, hu => cases hu; exact ((((o1.far (off_ne (by omega)) _).set _).far (off_ne (by omega)) _).far (off_ne (by omega)) _).far (off_ne (by omega)) _
      | 2, hu => cases hu; exact ((((o2.far (off_ne (by omega)) _).far (off_ne (by omega)) _).set _).far (off_ne (by omega)) _).far (off_ne (by omega)) _
      | 3, hu => cases hu; exact ((((o3.far (off_ne (by omega)) _).far (off_ne (by omega)) _).far (off_ne (by omega)) _).set _).far (off_ne (by omega)) _
      | 4, hu => cases hu; exact ((((o4.far (off_ne (by omega)) _).far (off_ne (by omega)) _).far (off_ne (by omega)) _).far (off_ne (by omega)) _).set _
      | c + 5, hu => simp at hu
    · simp only [upd_other e] at hu
      have hc : c < 5 := by rw [← h.tc k hk]; exact (Array.getElem?_eq_some_iff.1 hu).1
      exact faro (h.l0 k hk c u hu) (by omega)
  · unfold put5
    rw [Below.heap_setCell _ _ _ A.gf (Ne.symm h.n5), Below.heap_setCell _ _ _ A.gf (Ne.symm h.n5), Below.heap_setCell _ _ _ A.gf (Ne.symm h.n5), Below.heap_setCell _ _ _ A.gf (Ne.symm h.n5), Below.heap_setCell _ _ _ A.gf (Ne.symm h.n5)]
    exact h.f
  · by_cases e : k = i
    · subst e; simp only [upd_same]; rfl
    · simp only [upd_other e]; exact h.tc k hk

theorem ArAt.set_ro {w : World} {b : Nat} {A : Ar} (h : ArAt w b A) {i : Nat} (hi : i < A.room) (x : Int) : ArAt (w.setCell ⟨A.gl, i * 8 + 5, none⟩ (.int .i64 x)) b { A with ro := upd A.ro i x } := by
  have farb : ∀ {g o : Nat} {v : Value}, Cell w g o v → A.gl ≠ g → Cell (w.setCell ⟨A.gl, i * 8 + 5, none⟩ (.int .i64 x)) g o v := fun hc hg => hc.far (blk_ne hg) _
  have faro : ∀ {o : Nat} {v : Value}, Cell w A.gl o v → i * 8 + 5 ≠ o → Cell (w.setCell ⟨A.gl, i * 8 + 5, none⟩ (.int .i64 x)) A.gl o v := fun hc hg => hc.far (off_ne hg) _
  refine ⟨farb h.c0 (Ne.symm h.n1), farb h.c1 (Ne.symm h.n1), farb h.c2 (Ne.symm h.n1), fun k hk c u hu => faro (h.l0 k hk c u hu) (by have hc : c < 5 := by { rw [← h.tc k hk]; exact (Array.getElem?_eq_some_iff.1 hu).1 }; omega), fun k hk => ?_, fun k hk => faro (h.l2 k hk) (by omega), fun k hk => faro (h.l3 k hk) (by omega), fun k hk => farb (h.r0 k hk) h.n4, fun k hk => farb (h.r1 k hk) h.n4, fun k hk => farb (h.r2 k hk) h.n4,
    (Below.heap_setCell w _ _ A.gf (Ne.symm h.n5)).trans h.f, by simpa [World.setCell] using h.lr, h.n1, h.n2, h.n3, h.n4, h.n5, h.n6, h.small, h.tc⟩
  by_cases e : k = i
  · subst e; simp only [upd_same]; exact (h.l1 k hk).set _
  · simp only [upd_other e]; exact faro (h.l1 k hk) (by omega)

theorem ArAt.set_ah {w : World} {b : Nat} {A : Ar} (h : ArAt w b A) {i : Nat} (hi : i < A.room) (x : Int) : ArAt (w.setCell ⟨A.gl, i * 8 + 6, none⟩ (.int .i64 x)) b { A with ah := upd A.ah i x } := by
  have farb : ∀ {g o : Nat} {v : Value}, Cell w g o v → A.gl ≠ g → Cell (w.setCell ⟨A.gl, i * 8 + 6, none⟩ (.int .i64 x)) g o v := fun hc hg => hc.far (blk_ne hg) _
  have faro : ∀ {o : Nat} {v : Value}, Cell w A.gl o v → i * 8 + 6 ≠ o → Cell (w.setCell ⟨A.gl, i * 8 + 6, none⟩ (.int .i64 x)) A.gl o v := fun hc hg => hc.far (off_ne hg) _
  refine ⟨farb h.c0 (Ne.symm h.n1), farb h.c1 (Ne.symm h.n1), farb h.c2 (Ne.symm h.n1), fun k hk c u hu => faro (h.l0 k hk c u hu) (by have hc : c < 5 := by { rw [← h.tc k hk]; exact (Array.getElem?_eq_some_iff.1 hu).1 }; omega), fun k hk => faro (h.l1 k hk) (by omega), fun k hk => ?_, fun k hk => faro (h.l3 k hk) (by omega), fun k hk => farb (h.r0 k hk) h.n4, fun k hk => farb (h.r1 k hk) h.n4, fun k hk => farb (h.r2 k hk) h.n4,
    (Below.heap_setCell w _ _ A.gf (Ne.symm h.n5)).trans h.f, by simpa [World.setCell] using h.lr, h.n1, h.n2, h.n3, h.n4, h.n5, h.n6, h.small, h.tc⟩
  by_cases e : k = i
  · subst e; simp only [upd_same]; exact (h.l2 k hk).set _
  · simp only [upd_other e]; exact faro (h.l2 k hk) (by omega)

theorem ArAt.set_fa {w : World} {b : Nat} {A : Ar} (h : ArAt w b A) {i : Nat} (hi : i < A.room) (x : Int) : ArAt (w.setCell ⟨A.gl, i * 8 + 7, none⟩ (.int .i64 x)) b { A with fa := upd A.fa i x } := by
  have farb : ∀ {g o : Nat} {v : Value}, Cell w g o v → A.gl ≠ g → Cell (w.setCell ⟨A.gl, i * 8 + 7, none⟩ (.int .i64 x)) g o v := fun hc hg => hc.far (blk_ne hg) _
  have faro : ∀ {o : Nat} {v : Value}, Cell w A.gl o v → i * 8 + 7 ≠ o → Cell (w.setCell ⟨A.gl, i * 8 + 7, none⟩ (.int .i64 x)) A.gl o v := fun hc hg => hc.far (off_ne hg) _
  refine ⟨farb h.c0 (Ne.symm h.n1), farb h.c1 (Ne.symm h.n1), farb h.c2 (Ne.symm h.n1), fun k hk c u hu => faro (h.l0 k hk c u hu) (by have hc : c < 5 := by { rw [← h.tc k hk]; exact (Array.getElem?_eq_some_iff.1 hu).1 }; omega), fun k hk => faro (h.l1 k hk) (by omega), fun k hk => faro (h.l2 k hk) (by omega), fun k hk => ?_, fun k hk => farb (h.r0 k hk) h.n4, fun k hk => farb (h.r1 k hk) h.n4, fun k hk => farb (h.r2 k hk) h.n4,
    (Below.heap_setCell w _ _ A.gf (Ne.symm h.n5)).trans h.f, by simpa [World.setCell] using h.lr, h.n1, h.n2, h.n3, h.n4, h.n5, h.n6, h.small, h.tc⟩
  by_cases e : k = i
  · subst e; simp only [upd_same]; exact (h.l3 k hk).set _
  · simp only [upd_other e]; exact faro (h.l3 k hk) (by omega)

theorem ArAt.set_rf {w : World} {b : Nat} {A : Ar} (h : ArAt w b A) {i : Nat} (hi : i < A.nr) (x : Int) : ArAt (w.setCell ⟨A.gr, i * 3, none⟩ (.int .i64 x)) b { A with rf := upd A.rf i x } := by
  have farb : ∀ {g o : Nat} {v : Value}, Cell w g o v → A.gr ≠ g → Cell (w.setCell ⟨A.gr, i * 3, none⟩ (.int .i64 x)) g o v := fun hc hg => hc.far (blk_ne hg) _
  have faro : ∀ {o : Nat} {v : Value}, Cell w A.gr o v → i * 3 ≠ o → Cell (w.setCell ⟨A.gr, i * 3, none⟩ (.int .i64 x)) A.gr o v := fun hc hg => hc.far (off_ne hg) _
  refine ⟨farb h.c0 (Ne.symm h.n2), farb h.c1 (Ne.symm h.n2), farb h.c2 (Ne.symm h.n2), fun k hk c u hu => farb (h.l0 k hk c u hu) (Ne.symm h.n4), fun k hk => farb (h.l1 k hk) (Ne.symm h.n4), fun k hk => farb (h.l2 k hk) (Ne.symm h.n4), fun k hk => farb (h.l3 k hk) (Ne.symm h.n4), fun k hk => ?_, fun k hk => faro (h.r1 k hk) (by omega), fun k hk => faro (h.r2 k hk) (by omega),
    (Below.heap_setCell w _ _ A.gf (Ne.symm h.n6)).trans h.f, by simpa [World.setCell] using h.lr, h.n1, h.n2, h.n3, h.n4, h.n5, h.n6, h.small, h.tc⟩
  by_cases e : k = i
  · subst e; simp only [upd_same]; exact (h.r0 k hk).set _
  · simp only [upd_other e]; exact faro (h.r0 k hk) (by omega)

theorem ArAt.set_rl {w : World} {b : Nat} {A : Ar} (h : ArAt w b A) {i : Nat} (hi : i < A.nr) (x : Int) : ArAt (w.setCell ⟨A.gr, i * 3 + 1, none⟩ (.int .i64 x)) b { A with rl := upd A.rl i x } := by
  have farb : ∀ {g o : Nat} {v : Value}, Cell w g o v → A.gr ≠ g → Cell (w.setCell ⟨A.gr, i * 3 + 1, none⟩ (.int .i64 x)) g o v := fun hc hg => hc.far (blk_ne hg) _
  have faro : ∀ {o : Nat} {v : Value}, Cell w A.gr o v → i * 3 + 1 ≠ o → Cell (w.setCell ⟨A.gr, i * 3 + 1, none⟩ (.int .i64 x)) A.gr o v := fun hc hg => hc.far (off_ne hg) _
  refine ⟨farb h.c0 (Ne.symm h.n2), farb h.c1 (Ne.symm h.n2), farb h.c2 (Ne.symm h.n2), fun k hk c u hu => farb (h.l0 k hk c u hu) (Ne.symm h.n4), fun k hk => farb (h.l1 k hk) (Ne.symm h.n4), fun k hk => farb (h.l2 k hk) (Ne.symm h.n4), fun k hk => farb (h.l3 k hk) (Ne.symm h.n4), fun k hk => faro (h.r0 k hk) (by omega), fun k hk => ?_, fun k hk => faro (h.r2 k hk) (by omega),
    (Below.heap_setCell w _ _ A.gf (Ne.symm h.n6)).trans h.f, by simpa [World.setCell] using h.lr, h.n1, h.n2, h.n3, h.n4, h.n5, h.n6, h.small, h.tc⟩
  by_cases e : k = i
  · subst e; simp only [upd_same]; exact (h.r1 k hk).set _
  · simp only [upd_other e]; exact faro (h.r1 k hk) (by omega)

theorem ArAt.set_rn {w : World} {b : Nat} {A : Ar} (h : ArAt w b A) {i : Nat} (hi : i < A.nr) (x : Int) : ArAt (w.setCell ⟨A.gr, i * 3 + 2, none⟩ (.int .i64 x)) b { A with rn := upd A.rn i x } := by
  have farb : ∀ {g o : Nat} {v : Value}, Cell w g o v → A.gr ≠ g → Cell (w.setCell ⟨A.gr, i * 3 + 2, none⟩ (.int .i64 x)) g o v := fun hc hg => hc.far (blk_ne hg) _
  have faro : ∀ {o : Nat} {v : Value}, Cell w A.gr o v → i * 3 + 2 ≠ o → Cell (w.setCell ⟨A.gr, i * 3 + 2, none⟩ (.int .i64 x)) A.gr o v := fun hc hg => hc.far (off_ne hg) _
  refine ⟨farb h.c0 (Ne.symm h.n2), farb h.c1 (Ne.symm h.n2), farb h.c2 (Ne.symm h.n2), fun k hk c u hu => farb (h.l0 k hk c u hu) (Ne.symm h.n4), fun k hk => farb (h.l1 k hk) (Ne.symm h.n4), fun k hk => farb (h.l2 k hk) (Ne.symm h.n4), fun k hk => farb (h.l3 k hk) (Ne.symm h.n4), fun k hk => faro (h.r0 k hk) (by omega), fun k hk => faro (h.r1 k hk) (by omega), fun k hk => ?_,
    (Below.heap_setCell w _ _ A.gf (Ne.symm h.n6)).trans h.f, by simpa [World.setCell] using h.lr, h.n1, h.n2, h.n3, h.n4, h.n5, h.n6, h.small, h.tc⟩
  by_cases e : k = i
  · subst e; simp only [upd_same]; exact (h.r2 k hk).set _
  · simp only [upd_other e]; exact faro (h.r2 k hk) (by omega)
end Od
end Go.Proofs.Ytilngakgofjmpaa
