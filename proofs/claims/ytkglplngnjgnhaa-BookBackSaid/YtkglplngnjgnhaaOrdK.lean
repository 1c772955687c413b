/- Slots: All, a range over a function: its contract. Conditions: an arena as New lays it. -/
import Derived.Test.YtkglplngnjgnhaaOrdI
import Derived.Test.YtkglplngnjgnhaaGen
import Derived.RangeFuncNested
import Derived.RangeFuncBound
import Derived.RangeFuncCalls
import Derived.RangeFuncLeaves
import Derived.Shelf.Abstract
import Derived.Shelf.RegionOpen
import Derived.WalkKit
import Derived.OwnWalkIn
import Derived.TacticsInMore
import Derived.LoopNIn
import Derived.LoopIn
namespace Go.Proofs.Ytkglplngnjgnhaa
set_option linter.unusedVariables false
set_option linter.unusedSimpArgs false
namespace Od
open Go.RowKit Go.Shelf
attribute [local go_sem] Oper.semAt_some

theorem ArAt.keepB {W W' : World} {b : Nat} {A : Ar} (h : ArAt W b A) {S : Nat → Prop} (k : KeepB S W W') (hb : S b) (hl : S A.gl) (hr : S A.gr) (hf : S A.gf) : ArAt W' b A :=
  ⟨h.c0.blk (k _ hb), h.c1.blk (k _ hb), h.c2.blk (k _ hb), fun i hi c u hu => (h.l0 i hi c u hu).blk (k _ hl), fun i hi => (h.l1 i hi).blk (k _ hl), fun i hi => (h.l2 i hi).blk (k _ hl), fun i hi => (h.l3 i hi).blk (k _ hl),
    fun i hi => (h.r0 i hi).blk (k _ hr), fun i hi => (h.r1 i hi).blk (k _ hr), fun i hi => (h.r2 i hi).blk (k _ hr), (k _ hf).trans h.f, ⟨lt_of_blk h.lr.1 (k _ hl), lt_of_blk h.lr.2 (k _ hr)⟩,
    h.n1, h.n2, h.n3, h.n4, h.n5, h.n6, h.small, h.tc⟩
theorem Lay.keepB {W W' : World} {b gl gr gf nr room : Nat} {R : Nat → List Nat} {V : Nat → OrdR} (h : Lay W b gl gr gf nr room R V) {S : Nat → Prop} (k : KeepB S W W') (hS : ∀ i, Blk4 b gl gr gf i → S i) : Lay W' b gl gr gf nr room R V := by
  obtain ⟨A, h⟩ := h
  exact ⟨A, ⟨h.at_.keepB k (hS b (.inl rfl)) (hS A.gl (.inr (.inl h.egl))) (hS A.gr (.inr (.inr (.inl h.egr)))) (hS A.gf (.inr (.inr (.inr h.egf)))), h.rep, h.egl, h.egr, h.egf, h.enr, h.erm, h.th⟩⟩

/-- How many are left, a number being the next. -/
def leftN (L : List Nat) (i : Int) : Nat := (L.dropWhile fun m : Nat => decide ((m : Int) ≠ i)).length
theorem leftN_eq {L l1 l2 : List Nat} (h : L = l1 ++ l2) (hn : L.Nodup) : leftN L (hdI l2) = l2.length := by
  subst h
  unfold leftN
  congr 1
  induction l1 with
  | nil =>
    cases l2 with
    | nil => rfl
    | cons a t => simp [List.dropWhile, hdI]
  | cons a t ih =>
    have h2 := List.nodup_cons.1 hn
    rw [List.cons_append, List.dropWhile_cons, if_pos, ih h2.2]
    simp only [decide_eq_true_eq]
    cases l2 with
    | nil => simp only [hdI]; omega
    | cons x r => simp only [hdI]; intro e; exact h2.1 (by simp; right; left; omega)

/-- What a round is handed: a number and its thing. -/
abbrev Item := Nat × OrdR
def encI (x : Item) : Array Value := #[.int .i64 x.1, .agg #[.int .i64 x.2.i, .int .i64 x.2.c, .int .u8 x.2.s, .int .i64 x.2.p, .int .i64 x.2.q]]
def KS (b gl gr gf Ba : Nat) (i : Nat) : Prop := Blk4 b gl gr gf i ∨ i = Ba

set_option maxRecDepth 100000 in
set_option maxHeartbeats 4000000 in
theorem all1_in (n : Nat) (hn : 1 ≤ n) (l Ba Br b gl gr gf nr room : Nat) (R : Nat → List Nat) (V : Nat → OrdR) (q : Int) (L : List Nat) (hnd : L.Nodup) (hLr : L = [] ∨ ∃ r, r < nr ∧ R r = L)
    (hfirst : ∀ W, Lay W b gl gr gf nr room R V → Calls Try.prog 111 #[.pointer (some ⟨b, 0, none⟩), .int .i64 q] W fun e w' => e = .returned (.int .i64 (hdI L)) ∧ W = w')
    (J Jx : List Item → World → Prop)
    (hY : ∀ pre x W, J pre W → pre.length < L.length → YieldAt Fence.wide (n - 1) Try.prog l (encI x) W fun e W' =>
      (e = .returned (.bool true) ∧ J (pre ++ [x]) W' ∧ KeepB (KS b gl gr gf Ba) W W') ∨ (e = .returned (.bool false) ∧ Jx (pre ++ [x]) W'))
    (W : World) (hBa : W.cell? ⟨Ba, 0, none⟩ = some (.pointer (some ⟨b, 0, none⟩))) (hBr : W.cell? ⟨Br, 0, none⟩ = some (.int .i64 q)) (hL : Lay W b gl gr gf nr room R V) (h0 : J [] W) :
    CallsIn Fence.wide n Try.prog 110 #[.func (.yield l) #[] #[], .pointer (some ⟨Ba, 0, none⟩), .pointer (some ⟨Br, 0, none⟩)] W fun e W' => (∃ v, e = .returned v) ∧
      ((∃ ys, ys = L.map (fun n => (n, V n)) ∧ J ys W') ∨ (∃ pre, pre <+: L.map (fun n => (n, V n)) ∧ Jx pre W')) := by
  have HF := Lib.hid (callsIn_wide (n := n - 1).2 (hfirst W hL))
  refine callsIn_of_wp Try.func110 rfl trivial ?_ rfl
  simp only [Try.ntmps110, List.size_toArray, List.length_cons, List.length_nil, Nat.reduceAdd, Nat.reduceSub, Array.replicate_succ, Array.replicate_zero, List.push_toArray, List.append_toArray, List.nil_append, List.cons_append]
  gi_wp2_with (refine ⟨trivial, ?_⟩; gi_at_call 111; refine HF.out.mono ?_; rintro e w' ⟨rfl, rfl⟩)
  clear HF hfirst
  gi_loopw [4] (fun p wr => ∃ (l1 l2 : List Nat), L = l1 ++ l2 ∧ p = .int .i64 (hdI l2) ∧ J (l1.map fun n => (n, V n)) wr ∧ KeepB (KS b gl gr gf Ba) W wr)
    (fun p wr => leftN L (intOf p))
  case atStart => exact ⟨[], L, rfl, rfl, h0, KeepB.refl _ _⟩
  case round =>
    obtain ⟨l1, l2, hs, rfl, hJs, hk⟩ := hrel
    cases l2 with
    | nil =>
      have e : hdI ([] : List Nat) = -1 := rfl
      rw [e]
      gi_wp2
      go_end0
      exact ⟨⟨_, rfl⟩, .inl ⟨_, rfl, by rw [hs, List.append_nil]; exact hJs⟩⟩
    | cons x t =>
      have e : hdI (x :: t) = (x : Int) := rfl
      rw [e]
      have e1 : ((x : Int) != -1) = true := by simp
      obtain ⟨fn, tmps, assign, body, hy, hR⟩ := hY _ (x, V x) wr hJs (by rw [hs]; simp)
      unfold encI at hy
      dsimp only at hy
      have hLw := hL.keepB hk (fun i hi => .inl hi)
      have hba := (World.cell?_of_block (a := ⟨Ba, 0, none⟩) (hk Ba (.inr rfl))).trans hBa
      have hLH := Lib.hid hLw
      obtain ⟨r, hr, hRr⟩ : ∃ r, r < nr ∧ R r = l1 ++ x :: t := by
        rcases hLr with h1 | ⟨r, h1, h2⟩
        · rw [hs] at h1; simp at h1
        · exact ⟨r, h1, h2.trans hs⟩
      obtain ⟨A, hA, hRA, rfl, rfl, rfl, rfl, rfl, ht⟩ := hLw
      have hxr := hRA.lt r hr x (by rw [hRr]; simp)
      have hsm := hA.small.1
      have c0 := hA.c0.cell
      have t00 := (hA.l0 x hxr 0 (.int .i64 (V x).i) (by rw [ht x hxr]; rfl)).cell
      have t01 := (hA.l0 x hxr 1 (.int .i64 (V x).c) (by rw [ht x hxr]; rfl)).cell
      have t02 := (hA.l0 x hxr 2 (.int .u8 (V x).s) (by rw [ht x hxr]; rfl)).cell
      have t03 := (hA.l0 x hxr 3 (.int .i64 (V x).p) (by rw [ht x hxr]; rfl)).cell
      have t04 := (hA.l0 x hxr 4 (.int .i64 (V x).q) (by rw [ht x hxr]; rfl)).cell
      rw [Nat.add_zero] at t00
      have t3 := (hA.l3 x hxr).cell
      rw [(hRA.lk r hr l1 x t hRr).2] at t3
      have HC0 := Lib.hid c0
      have HT3 := Lib.hid t3
      have HBA := Lib.hid hba
      have HS := Lib.hid hs
      clear hA hRA ht t3 hs hRr e hLr hr
      gi_wp2
      refine hR.mono ?_
      rintro e W3 (⟨rfl, hJ3, hk3⟩ | ⟨rfl, hJx3⟩)
      · have hba3 := (World.cell?_of_block (a := ⟨Ba, 0, none⟩) (hk3 Ba (.inr rfl))).trans HBA.out
        have c3 := (World.cell?_of_block (a := ⟨b, 0, none⟩) (hk3 b (.inl (.inl rfl)))).trans HC0.out
        have f3 := (World.cell?_of_block (a := ⟨A.gl, x * 8 + 7, none⟩) (hk3 A.gl (.inl (.inr (.inl rfl))))).trans HT3.out
        have htop : ∃ top, top = hdI t := ⟨_, rfl⟩
        obtain ⟨top, htop⟩ := htop
        rw [← htop] at f3
        have HT := Lib.hid htop
        clear htop hba c0 t00 t01 t02 t03 t04
        gi_wp2
        go_roundw
        case rel => exact ⟨l1 ++ [x], t, by rw [HS.out]; simp, by rw [HT.out], by rw [List.map_append]; exact hJ3, hk.trans hk3⟩
        case measure =>
          have h1 := leftN_eq (l1 := l1) (l2 := x :: t) HS.out hnd
          have h2 := leftN_eq (L := L) (l1 := l1 ++ [x]) (l2 := t) (by rw [HS.out]; simp) hnd
          simp only [hdI] at h1
          simp only [intOf, HT.out, h1, h2, List.length_cons]
          omega
      · gi_wp2
        refine bodyPost_ret (results_none rfl _ _ _) rfl ?_
        exact ⟨⟨_, rfl⟩, .inr ⟨_, ⟨t.map fun n => (n, V n), by rw [HS.out]; simp⟩, hJx3⟩⟩

/-- All's value gives the row's numbers and things, in order. -/
theorem all_stops (n : Nat) (hn : 1 ≤ n) (w : World) (Ba Br b gl gr gf nr room : Nat) (R : Nat → List Nat) (V : Nat → OrdR) (q : Int) (L : List Nat) (hnd : L.Nodup) (hLr : L = [] ∨ ∃ r, r < nr ∧ R r = L)
    (hfirst : ∀ W, Lay W b gl gr gf nr room R V → Calls Try.prog 111 #[.pointer (some ⟨b, 0, none⟩), .int .i64 q] W fun e w' => e = .returned (.int .i64 (hdI L)) ∧ W = w')
    (hBa : w.cell? ⟨Ba, 0, none⟩ = some (.pointer (some ⟨b, 0, none⟩))) (hBr : w.cell? ⟨Br, 0, none⟩ = some (.int .i64 q)) (hL : Lay w b gl gr gf nr room R V) :
    SeqStopsK Fence.wide n Try.prog 110 #[.pointer (some ⟨Ba, 0, none⟩), .pointer (some ⟨Br, 0, none⟩)] encI (KeepB (KS b gl gr gf Ba)) (fun ys => ys = L.map fun n => (n, V n)) (fun pre => pre <+: L.map fun n => (n, V n)) L.length w := fun l J Jx W hW _ _ hY h0 => by
  have e1 := (hW.cell (p := ⟨Ba, 0, none⟩) (cell_lt hBa)).trans hBa
  have e2 := (hW.cell (p := ⟨Br, 0, none⟩) (cell_lt hBr)).trans hBr
  have e3 : Lay W b gl gr gf nr room R V := hL.keepB (S := Blk4 b gl gr gf) (fun i hi => hW.block i (hL.blk i hi)) (fun _ h => h)
  exact all1_in n hn l Ba Br b gl gr gf nr room R V q L hnd hLr hfirst J Jx hY W e1 e2 e3 h0

theorem s_all (w : World) (b : Nat) (q : Int) :
    Calls Try.prog 92 #[.pointer (some ⟨b, 0, none⟩), .int .i64 q] w fun e w' => e = .returned (.func (.func 110) #[] #[.pointer (some ⟨w.heap.size, 0, none⟩), .pointer (some ⟨w.heap.size + 1, 0, none⟩)]) ∧ w' = (w.alloc (.cells #[.pointer (some ⟨b, 0, none⟩)] 119)).alloc (.cells #[.int .i64 q] 3) := by
  go_enter Try.func92, Try.ntmps92
  go_wp2
  go_returns
  first | exact ⟨rfl, rfl⟩ | (simp; done)
end Od
end Go.Proofs.Ytkglplngnjgnhaa
