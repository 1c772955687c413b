/- Slots: Push, walked. Conditions: an arena as New lays it, its numbers in their ranges. -/
import Derived.Test.YtkglplngnjgnhaaOrd5
namespace Go.Proofs.Ytkglplngnjgnhaa
set_option linter.unusedVariables false
set_option linter.unusedSimpArgs false
namespace Od
open Go.RowKit

--<shared>
def Ar.push (A : Ar) (r : Nat) (v : Value) : Ar :=
  { A.least with
    th := upd A.th (A.fr 0).toNat v
    ro := upd A.ro (A.fr 0).toNat r
    ah := upd A.ah (A.fr 0).toNat (A.rl r)
    fa := if A.rl r = -1 then upd A.fa (A.fr 0).toNat (-1) else upd (upd A.fa (A.fr 0).toNat (-1)) (A.rl r).toNat (A.fr 0)
    rf := if A.rl r = -1 then upd A.rf r (A.fr 0) else A.rf
    rl := upd A.rl r (A.fr 0)
    rn := upd A.rn r (A.rn r + 1) }

--</shared>
set_option maxHeartbeats 1000000 in
theorem s_push_bad (w : World) (b : Nat) (A : Ar) (r : Int) (v0 v1 v2 v3 v4 : Int) (h : ArAt w b A) (hr : ¬ A.isRow r) :
    Calls Try.prog 58 #[.pointer (some ⟨b, 0, none⟩), .int .i64 r, .agg #[.int .i64 v0, .int .i64 v1, .int .u8 v2, .int .i64 v3, .int .i64 v4]] w fun e w' => e = .returned (.tuple #[.int .i64 0, .int .i64 1]) ∧ Only (fun _ => False) w w' := by
  have h0 := h.alloc (.cells #[.int .i64 v0, .int .i64 v1, .int .u8 v2, .int .i64 v3, .int .i64 v4] 54)
  have HI := Lib.hid (s_is _ b A r h0)
  have e : decide (A.isRow r) = false := by simp [hr]
  rw [e] at HI
  clear e h h0 hr
  go_enter Try.func58, Try.ntmps58
  go_wp2_with ((go_at_call 99; refine HI.out.mono ?_; rintro e w1 ⟨rfl, rfl⟩))
  go_returns
  exact ⟨rfl, by repeat' (first | (with_reducible exact Only.refl _ _) | (with_reducible assumption) | (refine Only.of_none ?_; with_reducible assumption) | (with_reducible refine Only.drewN ?_ _) | (with_reducible refine Only.drew ?_) | (with_reducible refine Only.alloc ?_ _) | (with_reducible refine Only.setCell ?_ ?_ _) | (with_reducible refine Only.then0 ?_ (by with_reducible assumption)) | (with_reducible refine Only.thenN ?_ (by with_reducible assumption) ?_) | (with_reducible refine Only.trans ?_ (by with_reducible assumption)) | (refine .inl ?_; first | rfl | (simp; done) | (simp [Ar.blk]; done)) | (refine .inr ?_; first | omega | (simp; done) | (simp; omega) | exact Only.size (by with_reducible assumption) | (refine Nat.le_trans (Only.size (by with_reducible assumption)) ?_; simp; done)))⟩

set_option maxHeartbeats 1000000 in
theorem s_push_full (w : World) (b : Nat) (A : Ar) (r : Int) (v0 v1 v2 v3 v4 : Int) (h : ArAt w b A) (hr : A.isRow r) (hn : A.nf = 0) :
    Calls Try.prog 58 #[.pointer (some ⟨b, 0, none⟩), .int .i64 r, .agg #[.int .i64 v0, .int .i64 v1, .int .u8 v2, .int .i64 v3, .int .i64 v4]] w fun e w' => e = .returned (.tuple #[.int .i64 0, .int .i64 40]) ∧ Only (fun _ => False) w w' := by
  have h0 := h.alloc (.cells #[.int .i64 v0, .int .i64 v1, .int .u8 v2, .int .i64 v3, .int .i64 v4] 54)
  have HI := Lib.hid (s_is _ b A r h0)
  have e : decide (A.isRow r) = true := by simp [hr]
  rw [e] at HI
  have c2 := h0.c2.cell
  have hlt := h0.c2.lt
  have hlt0 := h.c2.lt
  have hgf0 := h.gf_lt
  rw [hn] at c2
  clear e h h0 hr hn
  go_enter Try.func58, Try.ntmps58
  go_wp2_with ((go_at_call 99; refine HI.out.mono ?_; rintro e w1 ⟨rfl, rfl⟩))
  go_returns
  exact ⟨rfl, by repeat' (first | (with_reducible exact Only.refl _ _) | (with_reducible assumption) | (refine Only.of_none ?_; with_reducible assumption) | (with_reducible refine Only.drewN ?_ _) | (with_reducible refine Only.drew ?_) | (with_reducible refine Only.alloc ?_ _) | (with_reducible refine Only.setCell ?_ ?_ _) | (with_reducible refine Only.then0 ?_ (by with_reducible assumption)) | (with_reducible refine Only.thenN ?_ (by with_reducible assumption) ?_) | (with_reducible refine Only.trans ?_ (by with_reducible assumption)) | (refine .inl ?_; first | rfl | (simp; done) | (simp [Ar.blk]; done)) | (refine .inr ?_; first | omega | (simp; done) | (simp; omega) | exact Only.size (by with_reducible assumption) | (refine Nat.le_trans (Only.size (by with_reducible assumption)) ?_; simp; done)))⟩

set_option maxHeartbeats 4000000 in
set_option maxRecDepth 100000 in
theorem s_push (w : World) (b : Nat) (A : Ar) (r : Nat) (v0 v1 v2 v3 v4 : Int) (h : ArAt w b A) (hr : r < A.nr) (hn : 0 < A.nf) (n : Nat) (hfn : A.fr 0 = (n : Int)) (hnr : n < A.room) (hl : A.rl r = -1 ∨ (0 ≤ A.rl r ∧ A.rl r < A.room)) (hc : 0 ≤ A.rn r ∧ A.rn r ≤ 65536) :
    Calls Try.prog 58 #[.pointer (some ⟨b, 0, none⟩), .int .i64 r, .agg #[.int .i64 v0, .int .i64 v1, .int .u8 v2, .int .i64 v3, .int .i64 v4]] w fun e w' => e = .returned (.tuple #[.int .i64 n, .int .i64 0]) ∧ ArAt w' b (A.push r (.agg #[.int .i64 v0, .int .i64 v1, .int .u8 v2, .int .i64 v3, .int .i64 v4])) ∧ Only (A.blk b) w w' := by
  have hir : A.isRow r := ⟨by omega, by omega⟩
  have h0 := h.alloc (.cells #[.int .i64 v0, .int .i64 v1, .int .u8 v2, .int .i64 v3, .int .i64 v4] 54)
  have HI := Lib.hid (s_is _ b A r h0)
  have e : decide (A.isRow r) = true := by simp [hir]
  rw [e] at HI
  have hle := fun W (hW : ArAt W b A) => s_least W b A hW hn
  rw [hfn] at hle
  have HLE := Lib.hid hle
  clear hle
  have c2 := h0.c2.cell
  have c1 := h0.c1.cell
  have hlt := h0.c2.lt
  have hlt0 := h.c2.lt
  have hgf0 := h.gf_lt
  have hs := h.small
  have hnf : ((A.nf : Int) == 0) = false := by simp; omega
  have hr16 : r < 65536 := by omega
  have HAr := Lib.hid h
  clear e h h0 hir
  go_enter Try.func58, Try.ntmps58
  go_upto_region 5 with ((go_at_call 99; refine HI.out.mono ?_; rintro e w1 ⟨rfl, rfl⟩))
  go_cut [8, 9] (fun s8 s9 wc => s8 = .int .i64 n ∧ s9 = .pointer (some ⟨A.gr, r * 3, none⟩) ∧ ArAt wc b A.least ∧ Only (fun i => i = b ∨ i = A.gf) (w.alloc (.cells #[.int .i64 v0, .int .i64 v1, .int .u8 v2, .int .i64 v3, .int .i64 v4] 54)) wc)
  case first =>
    go_region_with (go_at_call 100; refine (HLE.out _ (by (repeat (first | (with_reducible refine ArAt.drew ?_) | (with_reducible refine ArAt.drewN ?_ _) | (with_reducible refine ArAt.alloc ?_ _))); exact HAr.out)).mono ?_; rintro e w1 ⟨rfl, hA1, o1⟩; have d1 := hA1.c1.cell; simp only [Ar.least] at d1; have HA1 := Lib.hid hA1; clear hA1)
    all_goals
      go_wp2_with fail
      go_meet
      exact ⟨rfl, rfl, (by (repeat (first | (with_reducible refine ArAt.drew ?_) | (with_reducible refine ArAt.drewN ?_ _) | (with_reducible refine ArAt.alloc ?_ _))); exact HA1.out), by repeat' (first | (with_reducible exact Only.refl _ _) | (with_reducible assumption) | (refine Only.of_none ?_; with_reducible assumption) | (with_reducible refine Only.drewN ?_ _) | (with_reducible refine Only.drew ?_) | (with_reducible refine Only.alloc ?_ _) | (with_reducible refine Only.setCell ?_ ?_ _) | (with_reducible refine Only.then0 ?_ (by with_reducible assumption)) | (with_reducible refine Only.thenN ?_ (by with_reducible assumption) ?_) | (with_reducible refine Only.trans ?_ (by with_reducible assumption)) | (refine .inl ?_; first | rfl | (simp; done) | (simp [Ar.blk]; done)) | (refine .inr ?_; first | omega | (simp; done) | (simp; omega) | exact Only.size (by with_reducible assumption) | (refine Nat.le_trans (Only.size (by with_reducible assumption)) ?_; simp; done)))⟩
  case rest =>
    obtain ⟨rfl, rfl, hA, o1⟩ := hcut
    obtain ⟨F, hF⟩ : ∃ F, A.least = { A with nf := A.nf - 1, fr := F } := ⟨_, rfl⟩
    obtain ⟨B, hB⟩ : ∃ B : Ar, B = { A with nf := A.nf - 1, fr := F } := ⟨_, rfl⟩
    have hgl : B.gl = A.gl := by rw [hB]
    have hgr : B.gr = A.gr := by rw [hB]
    have hroom : B.room = A.room := by rw [hB]
    have hnrB : B.nr = A.nr := by rw [hB]
    have hrlB : B.rl = A.rl := by rw [hB]
    have hrnB : B.rn = A.rn := by rw [hB]
    have hp : A.push r (.agg #[.int .i64 v0, .int .i64 v1, .int .u8 v2, .int .i64 v3, .int .i64 v4]) = { B with
        th := upd B.th n (.agg #[.int .i64 v0, .int .i64 v1, .int .u8 v2, .int .i64 v3, .int .i64 v4]), ro := upd B.ro n r, ah := upd B.ah n (A.rl r)
        fa := if A.rl r = -1 then upd B.fa n (-1) else upd (upd B.fa n (-1)) (A.rl r).toNat n
        rf := if A.rl r = -1 then upd B.rf r n else B.rf, rl := upd B.rl r n, rn := upd B.rn r (A.rn r + 1) } := by
      unfold Ar.push; rw [hF, hB, hfn]; simp only [Int.toNat_natCast]
    rw [hF, ← hB] at hA
    have o1' : Only (A.blk b) w wc := ((Only.refl _ w).alloc _).trans (o1.mono fun _ _ h => h.elim .inl (fun h => .inr (.inr (.inr h))))
    have bx0 := (((Cell.new (w := w) (cs := #[.int .i64 v0, .int .i64 v1, .int .u8 v2, .int .i64 v3, .int .i64 v4]) (t := 54) (o := 0) rfl)).only o1 (by show ¬ (w.heap.size = b ∨ w.heap.size = A.gf); omega)).cell
    have bx1 := (((Cell.new (w := w) (cs := #[.int .i64 v0, .int .i64 v1, .int .u8 v2, .int .i64 v3, .int .i64 v4]) (t := 54) (o := 1) rfl)).only o1 (by show ¬ (w.heap.size = b ∨ w.heap.size = A.gf); omega)).cell
    have bx2 := (((Cell.new (w := w) (cs := #[.int .i64 v0, .int .i64 v1, .int .u8 v2, .int .i64 v3, .int .i64 v4]) (t := 54) (o := 2) rfl)).only o1 (by show ¬ (w.heap.size = b ∨ w.heap.size = A.gf); omega)).cell
    have bx3 := (((Cell.new (w := w) (cs := #[.int .i64 v0, .int .i64 v1, .int .u8 v2, .int .i64 v3, .int .i64 v4]) (t := 54) (o := 3) rfl)).only o1 (by show ¬ (w.heap.size = b ∨ w.heap.size = A.gf); omega)).cell
    have bx4 := (((Cell.new (w := w) (cs := #[.int .i64 v0, .int .i64 v1, .int .u8 v2, .int .i64 v3, .int .i64 v4]) (t := 54) (o := 4) rfl)).only o1 (by show ¬ (w.heap.size = b ∨ w.heap.size = A.gf); omega)).cell
    have zbx := cell_lt bx0
    clear o1
    have c0 := hA.c0.cell
    have d1 := hA.c1.cell
    rw [hgl, hroom] at c0
    rw [hgr, hnrB] at d1
    have hbw := hA.c0.lt
    have hglw := hA.lr.1
    have hgrw := hA.lr.2
    rw [hgl] at hglw
    rw [hgr] at hgrw
    have hsz : (B.th n).cells.size = 5 := hA.tc n (by omega)
    obtain ⟨w0, t00⟩ : ∃ u, Cell wc B.gl (n * 8 + 0) u := ⟨_, hA.l0 n (by omega) 0 _ (Array.getElem?_eq_getElem (by omega))⟩
    obtain ⟨w1, t01⟩ : ∃ u, Cell wc B.gl (n * 8 + 1) u := ⟨_, hA.l0 n (by omega) 1 _ (Array.getElem?_eq_getElem (by omega))⟩
    obtain ⟨w2, t02⟩ : ∃ u, Cell wc B.gl (n * 8 + 2) u := ⟨_, hA.l0 n (by omega) 2 _ (Array.getElem?_eq_getElem (by omega))⟩
    obtain ⟨w3, t03⟩ : ∃ u, Cell wc B.gl (n * 8 + 3) u := ⟨_, hA.l0 n (by omega) 3 _ (Array.getElem?_eq_getElem (by omega))⟩
    obtain ⟨w4, t04⟩ : ∃ u, Cell wc B.gl (n * 8 + 4) u := ⟨_, hA.l0 n (by omega) 4 _ (Array.getElem?_eq_getElem (by omega))⟩
    have t1 := hA.l1 n (by omega)
    have t2 := hA.l2 n (by omega)
    have t3 := hA.l3 n (by omega)
    have q0 := hA.r0 r (by omega)
    have q1 := hA.r1 r (by omega)
    have q2 := hA.r2 r (by omega)
    rw [hgl] at t00 t01 t02 t03 t04 t1 t2 t3
    rw [Nat.add_zero] at t00
    clear hsz
    rw [hgr] at q0 q1 q2
    rw [hrlB] at q1
    rw [hrnB] at q2
    obtain ⟨t00, u00⟩ := t00
    obtain ⟨t01, u01⟩ := t01
    obtain ⟨t02, u02⟩ := t02
    obtain ⟨t03, u03⟩ := t03
    obtain ⟨t04, u04⟩ := t04
    obtain ⟨t1, u1⟩ := t1
    obtain ⟨t2, u2⟩ := t2
    obtain ⟨t3, u3⟩ := t3
    obtain ⟨q0, p0⟩ := q0
    obtain ⟨q1, p1⟩ := q1
    obtain ⟨q2, p2⟩ := q2
    have n1 := hA.n1
    have n2 := hA.n2
    have n4 := hA.n4
    rw [hgl] at n1 n4
    rw [hgr] at n2 n4
    have n1' := Ne.symm n1
    have n2' := Ne.symm n2
    have n4' := Ne.symm n4
    have HP := Lib.hid hp
    by_cases hl1 : A.rl r = -1
    · have HW := Lib.hid (fun W (hW : ArAt W b B) => (((((((hW.set_th (i := n) (by omega) (.int .i64 v0) (.int .i64 v1) (.int .u8 v2) (.int .i64 v3) (.int .i64 v4)).set_ro (i := n) (by simp only; omega) r).set_ah (i := n) (by simp only; omega) (A.rl r)).set_fa (i := n) (by simp only; omega) (-1)).set_rf (i := r) (by simp only; omega) n).set_rl (i := r) (by simp only; omega) n).set_rn (i := r) (by simp only; omega) (A.rn r + 1)))
      simp only [hgl, hgr, hl1, put5] at HW
      rw [hl1] at q1
      simp only [hl1, if_true, hgl, hgr] at HP
      have HBAr := Lib.hid hA
      clear hA hp hF hB hgl hgr hroom hnrB hrlB hrnB HLE HI HAr hl hl1 c1 c2
      generalize A.rn r = rn at *
      go_wp2
      go_region
      go_wp2
      go_returns
      refine ⟨rfl, ?_, by repeat' (first | (with_reducible exact Only.refl _ _) | (with_reducible assumption) | (refine Only.of_none ?_; with_reducible assumption) | (with_reducible refine Only.drewN ?_ _) | (with_reducible refine Only.drew ?_) | (with_reducible refine Only.alloc ?_ _) | (with_reducible refine Only.setCell ?_ ?_ _) | (with_reducible refine Only.then0 ?_ (by with_reducible assumption)) | (with_reducible refine Only.thenN ?_ (by with_reducible assumption) ?_) | (with_reducible refine Only.trans ?_ (by with_reducible assumption)) | (refine .inl ?_; first | rfl | (simp; done) | (simp [Ar.blk]; done)) | (refine .inr ?_; first | omega | (simp; done) | (simp; omega) | exact Only.size (by with_reducible assumption) | (refine Nat.le_trans (Only.size (by with_reducible assumption)) ?_; simp; done)))⟩
      rw [HP.out]
      (repeat (first | (with_reducible refine ArAt.drew ?_) | (with_reducible refine ArAt.drewN ?_ _) | (with_reducible refine ArAt.alloc ?_ _)));
      exact HW.out _ (by (repeat (first | (with_reducible refine ArAt.drew ?_) | (with_reducible refine ArAt.drewN ?_ _) | (with_reducible refine ArAt.alloc ?_ _))); exact HBAr.out)
    · obtain ⟨l, hl2⟩ : ∃ l : Nat, A.rl r = (l : Int) := ⟨(A.rl r).toNat, by omega⟩
      have hlr : l < A.room := by omega
      have hl3 : ((l : Int) == -1) = false := by simp
      have HW := Lib.hid (fun W (hW : ArAt W b B) => (((((((hW.set_th (i := n) (by omega) (.int .i64 v0) (.int .i64 v1) (.int .u8 v2) (.int .i64 v3) (.int .i64 v4)).set_ro (i := n) (by simp only; omega) r).set_ah (i := n) (by simp only; omega) (A.rl r)).set_fa (i := n) (by simp only; omega) (-1)).set_fa (i := l) (by simp only; omega) n).set_rl (i := r) (by simp only; omega) n).set_rn (i := r) (by simp only; omega) (A.rn r + 1)))
      simp only [hgl, hgr, hl2, put5] at HW
      rw [hl2] at q1 hl1
      simp only [hl2, hl1, if_false, Int.toNat_natCast, hgl, hgr] at HP
      have t4 := hA.l3 l (by omega)
      rw [hgl] at t4
      obtain ⟨t4, u4⟩ := t4
      have HBAr := Lib.hid hA
      clear hA hp hF hB hgl hgr hroom hnrB hrlB hrnB HLE HI HAr hl hl2 c1 c2
      generalize A.rn r = rn at *
      by_cases hln : l = n
      · subst hln
        go_wp2
        go_region
        go_wp2
        go_region
        go_wp2
        go_returns
        refine ⟨rfl, ?_, by repeat' (first | (with_reducible exact Only.refl _ _) | (with_reducible assumption) | (refine Only.of_none ?_; with_reducible assumption) | (with_reducible refine Only.drewN ?_ _) | (with_reducible refine Only.drew ?_) | (with_reducible refine Only.alloc ?_ _) | (with_reducible refine Only.setCell ?_ ?_ _) | (with_reducible refine Only.then0 ?_ (by with_reducible assumption)) | (with_reducible refine Only.thenN ?_ (by with_reducible assumption) ?_) | (with_reducible refine Only.trans ?_ (by with_reducible assumption)) | (refine .inl ?_; first | rfl | (simp; done) | (simp [Ar.blk]; done)) | (refine .inr ?_; first | omega | (simp; done) | (simp; omega) | exact Only.size (by with_reducible assumption) | (refine Nat.le_trans (Only.size (by with_reducible assumption)) ?_; simp; done)))⟩
        rw [HP.out]
        (repeat (first | (with_reducible refine ArAt.drew ?_) | (with_reducible refine ArAt.drewN ?_ _) | (with_reducible refine ArAt.alloc ?_ _)));
        exact HW.out _ (by (repeat (first | (with_reducible refine ArAt.drew ?_) | (with_reducible refine ArAt.drewN ?_ _) | (with_reducible refine ArAt.alloc ?_ _))); exact HBAr.out)
      · go_wp2
        go_region
        go_wp2
        go_region
        go_wp2
        go_returns
        refine ⟨rfl, ?_, by repeat' (first | (with_reducible exact Only.refl _ _) | (with_reducible assumption) | (refine Only.of_none ?_; with_reducible assumption) | (with_reducible refine Only.drewN ?_ _) | (with_reducible refine Only.drew ?_) | (with_reducible refine Only.alloc ?_ _) | (with_reducible refine Only.setCell ?_ ?_ _) | (with_reducible refine Only.then0 ?_ (by with_reducible assumption)) | (with_reducible refine Only.thenN ?_ (by with_reducible assumption) ?_) | (with_reducible refine Only.trans ?_ (by with_reducible assumption)) | (refine .inl ?_; first | rfl | (simp; done) | (simp [Ar.blk]; done)) | (refine .inr ?_; first | omega | (simp; done) | (simp; omega) | exact Only.size (by with_reducible assumption) | (refine Nat.le_trans (Only.size (by with_reducible assumption)) ?_; simp; done)))⟩
        rw [HP.out]
        (repeat (first | (with_reducible refine ArAt.drew ?_) | (with_reducible refine ArAt.drewN ?_ _) | (with_reducible refine ArAt.alloc ?_ _)));
        exact HW.out _ (by (repeat (first | (with_reducible refine ArAt.drew ?_) | (with_reducible refine ArAt.drewN ?_ _) | (with_reducible refine ArAt.alloc ?_ _))); exact HBAr.out)
end Od
end Go.Proofs.Ytkglplngnjgnhaa
