/- Slots: Take, walked. Conditions: an arena as New lays it, its numbers in their ranges. -/
import Derived.Test.YtkglplngnjgnhaaOrd6
namespace Go.Proofs.Ytkglplngnjgnhaa
set_option linter.unusedVariables false
set_option linter.unusedSimpArgs false
namespace Od
open Go.RowKit

--<shared>
/-- The links around a number are laid together. -/
def Ar.cut (A : Ar) (n r : Nat) : Ar :=
  { A with
    rf := if A.ah n = -1 then upd A.rf r (A.fa n) else A.rf
    fa := if A.ah n = -1 then A.fa else upd A.fa (A.ah n).toNat (A.fa n)
    rl := if A.fa n = -1 then upd A.rl r (A.ah n) else A.rl
    ah := if A.fa n = -1 then A.ah else upd A.ah (A.fa n).toNat (A.ah n)
    rn := upd A.rn r (A.rn r - 1) }
/-- A link is laid empty. -/
def Ar.wipe (A : Ar) (n : Nat) (z : Value) : Ar := { A with th := upd A.th n z, ro := upd A.ro n (-1), ah := upd A.ah n 0, fa := upd A.fa n 0 }
def Ar.take (A : Ar) (n : Nat) (z : Value) : Ar := ((A.cut n (A.ro n).toNat).wipe n z).give n

--</shared>
set_option maxHeartbeats 1000000 in
theorem s_take_no (w : World) (b : Nat) (A : Ar) (n : Int) (h : ArAt w b A) (hr : ¬ A.hasN n) :
    Calls Try.prog 61 #[.pointer (some ⟨b, 0, none⟩), .int .i64 n] w fun e w' => e = .returned (.tuple #[.agg #[.int .i64 0, .int .i64 0, .int .u8 0, .int .i64 0, .int .i64 0], .bool false]) ∧ Only (fun _ => False) w w' := by
  have h0 := h.alloc (.cells #[.int .i64 0, .int .i64 0, .int .u8 0, .int .i64 0, .int .i64 0] 54)
  have HI := Lib.hid (s_has _ b A n h0)
  have e : decide (A.hasN n) = false := by simp [hr]
  rw [e] at HI
  clear e h h0 hr
  go_enter Try.func61, Try.ntmps61
  go_wp2_with ((go_at_call 101; refine HI.out.mono ?_; rintro e w1 ⟨rfl, rfl⟩))
  go_returns
  exact ⟨rfl, by repeat' (first | (with_reducible exact Only.refl _ _) | (with_reducible assumption) | (refine Only.of_none ?_; with_reducible assumption) | (with_reducible refine Only.drewN ?_ _) | (with_reducible refine Only.drew ?_) | (with_reducible refine Only.alloc ?_ _) | (with_reducible refine Only.setCell ?_ ?_ _) | (with_reducible refine Only.then0 ?_ (by with_reducible assumption)) | (with_reducible refine Only.thenN ?_ (by with_reducible assumption) ?_) | (with_reducible refine Only.trans ?_ (by with_reducible assumption)) | (refine .inl ?_; first | rfl | (simp; done) | (simp [Ar.blk]; done)) | (refine .inr ?_; first | omega | (simp; done) | (simp; omega) | exact Only.size (by with_reducible assumption) | (refine Nat.le_trans (Only.size (by with_reducible assumption)) ?_; simp; done)))⟩

set_option maxHeartbeats 4000000 in
set_option maxRecDepth 100000 in
theorem s_take_nn (w : World) (b : Nat) (A : Ar) (n r : Nat) (v0 v1 v2 v3 v4 : Int) (h : ArAt w b A) (hn : n < A.room) (hro : A.ro n = (r : Int)) (hr : r < A.nr) (hv : A.th n = .agg #[.int .i64 v0, .int .i64 v1, .int .u8 v2, .int .i64 v3, .int .i64 v4]) (hc : 1 ≤ A.rn r ∧ A.rn r ≤ 65536) (hnf : A.nf < A.room) (ha : A.ah n = -1) (hf : A.fa n = -1) :
    Calls Try.prog 61 #[.pointer (some ⟨b, 0, none⟩), .int .i64 n] w fun e w' => e = .returned (.tuple #[.agg #[.int .i64 v0, .int .i64 v1, .int .u8 v2, .int .i64 v3, .int .i64 v4], .bool true]) ∧ ArAt w' b (A.take n (.agg #[.int .i64 0, .int .i64 0, .int .u8 0, .int .i64 0, .int .i64 0])) ∧ Only (A.blk b) w w' := by
  have hir : A.hasN n := ⟨⟨by omega, by omega⟩, by rw [Int.toNat_natCast, hro]; omega⟩
  have h0 := h.alloc (.cells #[.int .i64 0, .int .i64 0, .int .u8 0, .int .i64 0, .int .i64 0] 54)
  have HI := Lib.hid (s_has _ b A n h0)
  have e : decide (A.hasN n) = true := by simp [hir]
  rw [e] at HI
  have hs := h.small
  have hp : A.take n (.agg #[.int .i64 0, .int .i64 0, .int .u8 0, .int .i64 0, .int .i64 0]) = ((A.cut n r).wipe n (.agg #[.int .i64 0, .int .i64 0, .int .u8 0, .int .i64 0, .int .i64 0])).give n := by unfold Ar.take; rw [hro]; rfl
  obtain ⟨B, hB⟩ : ∃ B : Ar, B = (A.cut n r).wipe n (.agg #[.int .i64 0, .int .i64 0, .int .u8 0, .int .i64 0, .int .i64 0]) := ⟨_, rfl⟩
  rw [← hB] at hp
  have hBnf : B.nf < B.room := by rw [hB]; exact hnf
  have hBgf : B.gf = A.gf := by rw [hB]; rfl
  have HG := Lib.hid (fun W (hW : ArAt W b B) => s_give W b B n hW hBnf)
  have HW := Lib.hid (fun W (hW : ArAt W b A) => (((((((hW.set_rf (i := r) (by omega) (A.fa n)).set_rl (i := r) (by simp only; omega) (A.ah n)).set_rn (i := r) (by simp only; omega) (A.rn r - 1)).set_th (i := n) (by simp only; omega) (.int .i64 0) (.int .i64 0) (.int .u8 0) (.int .i64 0) (.int .i64 0)).set_ro (i := n) (by simp only; omega) (-1)).set_ah (i := n) (by simp only; omega) 0).set_fa (i := n) (by simp only; omega) 0))
  have hB' : B = { A with rf := upd A.rf r (A.fa n), fa := upd (A.fa) n 0, rl := upd A.rl r (A.ah n), ah := upd (A.ah) n 0, rn := upd A.rn r (A.rn r - 1), th := upd A.th n (.agg #[.int .i64 0, .int .i64 0, .int .u8 0, .int .i64 0, .int .i64 0]), ro := upd A.ro n (-1) } := by
    rw [hB]; unfold Ar.cut Ar.wipe; simp [ha, hf]
  simp only [ha, hf, put5] at HW hB'
  have HBB := Lib.hid hB'
  have c0 := h0.c0.cell
  have c1 := h0.c1.cell
  have c2 := h0.c2.cell
  have hbw := h0.c0.lt
  have hbw0 := h.c0.lt
  have hglw := h0.lr.1
  have hglw0 := h.lr.1
  have hgrw := h0.lr.2
  have hgrw0 := h.lr.2
  obtain ⟨t00, u00⟩ := h0.l0 n (by omega) 0 (.int .i64 v0) (by rw [hv]; rfl)
  obtain ⟨t01, u01⟩ := h0.l0 n (by omega) 1 (.int .i64 v1) (by rw [hv]; rfl)
  obtain ⟨t02, u02⟩ := h0.l0 n (by omega) 2 (.int .u8 v2) (by rw [hv]; rfl)
  obtain ⟨t03, u03⟩ := h0.l0 n (by omega) 3 (.int .i64 v3) (by rw [hv]; rfl)
  obtain ⟨t04, u04⟩ := h0.l0 n (by omega) 4 (.int .i64 v4) (by rw [hv]; rfl)
  rw [Nat.add_zero] at t00 u00
  obtain ⟨t1, u1⟩ := h0.l1 n (by omega)
  obtain ⟨t2, u2⟩ := h0.l2 n (by omega)
  obtain ⟨t3, u3⟩ := h0.l3 n (by omega)
  obtain ⟨q0, p0⟩ := h0.r0 r (by omega)
  obtain ⟨q1, p1⟩ := h0.r1 r (by omega)
  obtain ⟨q2, p2⟩ := h0.r2 r (by omega)
  rw [hro] at t1
  rw [ha] at t2
  rw [hf] at t3
  have n1 := h.n1
  have n2 := h.n2
  have n4 := h.n4
  have n1' := Ne.symm n1
  have n2' := Ne.symm n2
  have n4' := Ne.symm n4
  have HP := Lib.hid hp
  have HGF := Lib.hid hBgf
  have HAr := Lib.hid h
  clear e h h0 hir hB hB' hp hBgf hBnf hro ha hf hv
  generalize A.rn r = rn at *
  go_enter Try.func61, Try.ntmps61
  go_wp2_with ((go_at_call 101; refine HI.out.mono ?_; rintro e w1 ⟨rfl, rfl⟩))
  go_quiet (fail)
  go_wp2_with (fail)
  refine (HG.out _ (by rw [HBB.out]; (repeat (first | (with_reducible refine ArAt.drew ?_) | (with_reducible refine ArAt.drewN ?_ _) | (with_reducible refine ArAt.alloc ?_ _))); exact HW.out _ (by (repeat (first | (with_reducible refine ArAt.drew ?_) | (with_reducible refine ArAt.drewN ?_ _) | (with_reducible refine ArAt.alloc ?_ _))); exact HAr.out))).mono ?_
  rintro e w2 ⟨rfl, hA2, o2⟩
  rw [HGF.out] at o2
  have o3 : Only (A.blk b) ((w.alloc (.cells #[.int .i64 0, .int .i64 0, .int .u8 0, .int .i64 0, .int .i64 0] 54)).alloc (.cells #[.int .i64 v0, .int .i64 v1, .int .u8 v2, .int .i64 v3, .int .i64 v4, .int .i64 r, .int .i64 (-1), .int .i64 (-1)] 168)) w2 := Only.trans' (by repeat' (first | (with_reducible exact Only.refl _ _) | (with_reducible assumption) | (refine Only.of_none ?_; with_reducible assumption) | (with_reducible refine Only.drewN ?_ _) | (with_reducible refine Only.drew ?_) | (with_reducible refine Only.alloc ?_ _) | (with_reducible refine Only.setCell ?_ ?_ _) | (with_reducible refine Only.then0 ?_ (by with_reducible assumption)) | (with_reducible refine Only.thenN ?_ (by with_reducible assumption) ?_) | (with_reducible refine Only.trans ?_ (by with_reducible assumption)) | (refine .inl ?_; first | rfl | (simp; done) | (simp [Ar.blk]; done)) | (refine .inr ?_; first | omega | (simp; done) | (simp; omega) | exact Only.size (by with_reducible assumption) | (refine Nat.le_trans (Only.size (by with_reducible assumption)) ?_; simp; done)))) o2 (fun i _ h => h.elim .inl (fun h => .inr (.inr (.inr h))))
  have hgfw := HAr.out.gf_lt
  have d00 := o3.cell (b := w.heap.size + 1) (o := 0) (v := .int .i64 v0) (by simp [go_sem]) (by unfold Ar.blk; omega)
  have d01 := o3.cell (b := w.heap.size + 1) (o := 1) (v := .int .i64 v1) (by simp [go_sem]) (by unfold Ar.blk; omega)
  have d02 := o3.cell (b := w.heap.size + 1) (o := 2) (v := .int .u8 v2) (by simp [go_sem]) (by unfold Ar.blk; omega)
  have d03 := o3.cell (b := w.heap.size + 1) (o := 3) (v := .int .i64 v3) (by simp [go_sem]) (by unfold Ar.blk; omega)
  have d04 := o3.cell (b := w.heap.size + 1) (o := 4) (v := .int .i64 v4) (by simp [go_sem]) (by unfold Ar.blk; omega)
  have zb0 := ((Cell.new (w := w) (cs := #[.int .i64 0, .int .i64 0, .int .u8 0, .int .i64 0, .int .i64 0]) (t := 54) (o := 0) rfl).alloc _).only o3 (by show ¬ A.blk b w.heap.size; unfold Ar.blk; omega)
  have zc0 := zb0.cell
  have zf0 := zb0.free
  have zb1 := ((Cell.new (w := w) (cs := #[.int .i64 0, .int .i64 0, .int .u8 0, .int .i64 0, .int .i64 0]) (t := 54) (o := 1) rfl).alloc _).only o3 (by show ¬ A.blk b w.heap.size; unfold Ar.blk; omega)
  have zc1 := zb1.cell
  have zf1 := zb1.free
  have zb2 := ((Cell.new (w := w) (cs := #[.int .i64 0, .int .i64 0, .int .u8 0, .int .i64 0, .int .i64 0]) (t := 54) (o := 2) rfl).alloc _).only o3 (by show ¬ A.blk b w.heap.size; unfold Ar.blk; omega)
  have zc2 := zb2.cell
  have zf2 := zb2.free
  have zb3 := ((Cell.new (w := w) (cs := #[.int .i64 0, .int .i64 0, .int .u8 0, .int .i64 0, .int .i64 0]) (t := 54) (o := 3) rfl).alloc _).only o3 (by show ¬ A.blk b w.heap.size; unfold Ar.blk; omega)
  have zc3 := zb3.cell
  have zf3 := zb3.free
  have zb4 := ((Cell.new (w := w) (cs := #[.int .i64 0, .int .i64 0, .int .u8 0, .int .i64 0, .int .i64 0]) (t := 54) (o := 4) rfl).alloc _).only o3 (by show ¬ A.blk b w.heap.size; unfold Ar.blk; omega)
  have zc4 := zb4.cell
  have zf4 := zb4.free
  have rr0 : (((((w2.setCell ⟨w.heap.size, 0, none⟩ (.int .i64 v0)).setCell ⟨w.heap.size, 1, none⟩ (.int .i64 v1)).setCell ⟨w.heap.size, 2, none⟩ (.int .u8 v2)).setCell ⟨w.heap.size, 3, none⟩ (.int .i64 v3)).setCell ⟨w.heap.size, 4, none⟩ (.int .i64 v4)).cell? ⟨w.heap.size, 0, none⟩ = some (.int .i64 v0) := (show Cell (((((w2.setCell ⟨w.heap.size, 0, none⟩ (.int .i64 v0)).setCell ⟨w.heap.size, 1, none⟩ (.int .i64 v1)).setCell ⟨w.heap.size, 2, none⟩ (.int .u8 v2)).setCell ⟨w.heap.size, 3, none⟩ (.int .i64 v3)).setCell ⟨w.heap.size, 4, none⟩ (.int .i64 v4)) w.heap.size 0 (.int .i64 v0) from (((((zb0.set _).far (off_ne (by decide)) _).far (off_ne (by decide)) _).far (off_ne (by decide)) _).far (off_ne (by decide)) _)).cell
  have rr1 : (((((w2.setCell ⟨w.heap.size, 0, none⟩ (.int .i64 v0)).setCell ⟨w.heap.size, 1, none⟩ (.int .i64 v1)).setCell ⟨w.heap.size, 2, none⟩ (.int .u8 v2)).setCell ⟨w.heap.size, 3, none⟩ (.int .i64 v3)).setCell ⟨w.heap.size, 4, none⟩ (.int .i64 v4)).cell? ⟨w.heap.size, 1, none⟩ = some (.int .i64 v1) := (show Cell (((((w2.setCell ⟨w.heap.size, 0, none⟩ (.int .i64 v0)).setCell ⟨w.heap.size, 1, none⟩ (.int .i64 v1)).setCell ⟨w.heap.size, 2, none⟩ (.int .u8 v2)).setCell ⟨w.heap.size, 3, none⟩ (.int .i64 v3)).setCell ⟨w.heap.size, 4, none⟩ (.int .i64 v4)) w.heap.size 1 (.int .i64 v1) from (((((zb1.far (off_ne (by decide)) _).set _).far (off_ne (by decide)) _).far (off_ne (by decide)) _).far (off_ne (by decide)) _)).cell
  have rr2 : (((((w2.setCell ⟨w.heap.size, 0, none⟩ (.int .i64 v0)).setCell ⟨w.heap.size, 1, none⟩ (.int .i64 v1)).setCell ⟨w.heap.size, 2, none⟩ (.int .u8 v2)).setCell ⟨w.heap.size, 3, none⟩ (.int .i64 v3)).setCell ⟨w.heap.size, 4, none⟩ (.int .i64 v4)).cell? ⟨w.heap.size, 2, none⟩ = some (.int .u8 v2) := (show Cell (((((w2.setCell ⟨w.heap.size, 0, none⟩ (.int .i64 v0)).setCell ⟨w.heap.size, 1, none⟩ (.int .i64 v1)).setCell ⟨w.heap.size, 2, none⟩ (.int .u8 v2)).setCell ⟨w.heap.size, 3, none⟩ (.int .i64 v3)).setCell ⟨w.heap.size, 4, none⟩ (.int .i64 v4)) w.heap.size 2 (.int .u8 v2) from (((((zb2.far (off_ne (by decide)) _).far (off_ne (by decide)) _).set _).far (off_ne (by decide)) _).far (off_ne (by decide)) _)).cell
  have rr3 : (((((w2.setCell ⟨w.heap.size, 0, none⟩ (.int .i64 v0)).setCell ⟨w.heap.size, 1, none⟩ (.int .i64 v1)).setCell ⟨w.heap.size, 2, none⟩ (.int .u8 v2)).setCell ⟨w.heap.size, 3, none⟩ (.int .i64 v3)).setCell ⟨w.heap.size, 4, none⟩ (.int .i64 v4)).cell? ⟨w.heap.size, 3, none⟩ = some (.int .i64 v3) := (show Cell (((((w2.setCell ⟨w.heap.size, 0, none⟩ (.int .i64 v0)).setCell ⟨w.heap.size, 1, none⟩ (.int .i64 v1)).setCell ⟨w.heap.size, 2, none⟩ (.int .u8 v2)).setCell ⟨w.heap.size, 3, none⟩ (.int .i64 v3)).setCell ⟨w.heap.size, 4, none⟩ (.int .i64 v4)) w.heap.size 3 (.int .i64 v3) from (((((zb3.far (off_ne (by decide)) _).far (off_ne (by decide)) _).far (off_ne (by decide)) _).set _).far (off_ne (by decide)) _)).cell
  have rr4 : (((((w2.setCell ⟨w.heap.size, 0, none⟩ (.int .i64 v0)).setCell ⟨w.heap.size, 1, none⟩ (.int .i64 v1)).setCell ⟨w.heap.size, 2, none⟩ (.int .u8 v2)).setCell ⟨w.heap.size, 3, none⟩ (.int .i64 v3)).setCell ⟨w.heap.size, 4, none⟩ (.int .i64 v4)).cell? ⟨w.heap.size, 4, none⟩ = some (.int .i64 v4) := (show Cell (((((w2.setCell ⟨w.heap.size, 0, none⟩ (.int .i64 v0)).setCell ⟨w.heap.size, 1, none⟩ (.int .i64 v1)).setCell ⟨w.heap.size, 2, none⟩ (.int .u8 v2)).setCell ⟨w.heap.size, 3, none⟩ (.int .i64 v3)).setCell ⟨w.heap.size, 4, none⟩ (.int .i64 v4)) w.heap.size 4 (.int .i64 v4) from (((((zb4.far (off_ne (by decide)) _).far (off_ne (by decide)) _).far (off_ne (by decide)) _).far (off_ne (by decide)) _).set _)).cell
  have OZ := Lib.hid (show Only (· = w.heap.size) w2 (((((w2.setCell ⟨w.heap.size, 0, none⟩ (.int .i64 v0)).setCell ⟨w.heap.size, 1, none⟩ (.int .i64 v1)).setCell ⟨w.heap.size, 2, none⟩ (.int .u8 v2)).setCell ⟨w.heap.size, 3, none⟩ (.int .i64 v3)).setCell ⟨w.heap.size, 4, none⟩ (.int .i64 v4)) from (((((Only.refl (· = w.heap.size) w2).setCell (.inl rfl) _).setCell (.inl rfl) _).setCell (.inl rfl) _).setCell (.inl rfl) _).setCell (.inl rfl) _)
  have HA2 := Lib.hid hA2
  have O3 := Lib.hid o3
  clear hA2 o2 zb0 zb1 zb2 zb3 zb4 o3
  go_wp2
  refine bodyPost_ret (by simp [results, Try.results61, go_sem, rr0, rr1, rr2, rr3, rr4]; try rfl) rfl ?_
  refine ⟨rfl, by rw [HP.out]; exact ArAt.only HA2.out OZ.out (by show ¬ (b = w.heap.size); omega) (by rw [show (B.give n).gl = A.gl by rw [HBB.out]; rfl]; show ¬ (A.gl = w.heap.size); omega) (by rw [show (B.give n).gr = A.gr by rw [HBB.out]; rfl]; show ¬ (A.gr = w.heap.size); omega) (by rw [show (B.give n).gf = A.gf by rw [HBB.out]; rfl]; show ¬ (A.gf = w.heap.size); omega), ?_⟩
  exact ((((Only.refl _ w).alloc _).alloc _).trans O3.out).trans' OZ.out (fun i hi e => by omega)

set_option maxHeartbeats 4000000 in
set_option maxRecDepth 100000 in
theorem s_take_ns (w : World) (b : Nat) (A : Ar) (n r : Nat) (v0 v1 v2 v3 v4 : Int) (h : ArAt w b A) (hn : n < A.room) (hro : A.ro n = (r : Int)) (hr : r < A.nr) (hv : A.th n = .agg #[.int .i64 v0, .int .i64 v1, .int .u8 v2, .int .i64 v3, .int .i64 v4]) (hc : 1 ≤ A.rn r ∧ A.rn r ≤ 65536) (hnf : A.nf < A.room) (ha : A.ah n = -1) (f : Nat) (hf : A.fa n = (f : Int)) (hfr : f < A.room) (hfn : f ≠ n) :
    Calls Try.prog 61 #[.pointer (some ⟨b, 0, none⟩), .int .i64 n] w fun e w' => e = .returned (.tuple #[.agg #[.int .i64 v0, .int .i64 v1, .int .u8 v2, .int .i64 v3, .int .i64 v4], .bool true]) ∧ ArAt w' b (A.take n (.agg #[.int .i64 0, .int .i64 0, .int .u8 0, .int .i64 0, .int .i64 0])) ∧ Only (A.blk b) w w' := by
  have hir : A.hasN n := ⟨⟨by omega, by omega⟩, by rw [Int.toNat_natCast, hro]; omega⟩
  have h0 := h.alloc (.cells #[.int .i64 0, .int .i64 0, .int .u8 0, .int .i64 0, .int .i64 0] 54)
  have HI := Lib.hid (s_has _ b A n h0)
  have e : decide (A.hasN n) = true := by simp [hir]
  rw [e] at HI
  have hs := h.small
  have hp : A.take n (.agg #[.int .i64 0, .int .i64 0, .int .u8 0, .int .i64 0, .int .i64 0]) = ((A.cut n r).wipe n (.agg #[.int .i64 0, .int .i64 0, .int .u8 0, .int .i64 0, .int .i64 0])).give n := by unfold Ar.take; rw [hro]; rfl
  obtain ⟨B, hB⟩ : ∃ B : Ar, B = (A.cut n r).wipe n (.agg #[.int .i64 0, .int .i64 0, .int .u8 0, .int .i64 0, .int .i64 0]) := ⟨_, rfl⟩
  rw [← hB] at hp
  have hBnf : B.nf < B.room := by rw [hB]; exact hnf
  have hBgf : B.gf = A.gf := by rw [hB]; rfl
  have HG := Lib.hid (fun W (hW : ArAt W b B) => s_give W b B n hW hBnf)
  have HW := Lib.hid (fun W (hW : ArAt W b A) => (((((((hW.set_rf (i := r) (by omega) (A.fa n)).set_ah (i := f) (by simp only; omega) (A.ah n)).set_rn (i := r) (by simp only; omega) (A.rn r - 1)).set_th (i := n) (by simp only; omega) (.int .i64 0) (.int .i64 0) (.int .u8 0) (.int .i64 0) (.int .i64 0)).set_ro (i := n) (by simp only; omega) (-1)).set_ah (i := n) (by simp only; omega) 0).set_fa (i := n) (by simp only; omega) 0))
  have hB' : B = { A with rf := upd A.rf r (A.fa n), fa := upd (A.fa) n 0, rl := A.rl, ah := upd (upd A.ah f (A.ah n)) n 0, rn := upd A.rn r (A.rn r - 1), th := upd A.th n (.agg #[.int .i64 0, .int .i64 0, .int .u8 0, .int .i64 0, .int .i64 0]), ro := upd A.ro n (-1) } := by
    rw [hB]; unfold Ar.cut Ar.wipe; simp [ha, hf]
  simp only [ha, hf, put5] at HW hB'
  have HBB := Lib.hid hB'
  have c0 := h0.c0.cell
  have c1 := h0.c1.cell
  have c2 := h0.c2.cell
  have hbw := h0.c0.lt
  have hbw0 := h.c0.lt
  have hglw := h0.lr.1
  have hglw0 := h.lr.1
  have hgrw := h0.lr.2
  have hgrw0 := h.lr.2
  obtain ⟨t00, u00⟩ := h0.l0 n (by omega) 0 (.int .i64 v0) (by rw [hv]; rfl)
  obtain ⟨t01, u01⟩ := h0.l0 n (by omega) 1 (.int .i64 v1) (by rw [hv]; rfl)
  obtain ⟨t02, u02⟩ := h0.l0 n (by omega) 2 (.int .u8 v2) (by rw [hv]; rfl)
  obtain ⟨t03, u03⟩ := h0.l0 n (by omega) 3 (.int .i64 v3) (by rw [hv]; rfl)
  obtain ⟨t04, u04⟩ := h0.l0 n (by omega) 4 (.int .i64 v4) (by rw [hv]; rfl)
  rw [Nat.add_zero] at t00 u00
  obtain ⟨t1, u1⟩ := h0.l1 n (by omega)
  obtain ⟨t2, u2⟩ := h0.l2 n (by omega)
  obtain ⟨t3, u3⟩ := h0.l3 n (by omega)
  obtain ⟨q0, p0⟩ := h0.r0 r (by omega)
  obtain ⟨q1, p1⟩ := h0.r1 r (by omega)
  obtain ⟨q2, p2⟩ := h0.r2 r (by omega)
  rw [hro] at t1
  rw [ha] at t2
  rw [hf] at t3
  obtain ⟨t5, u5⟩ := h0.l2 f (by omega)
  have ef : ((f : Int) == -1) = false := by simp
  have n1 := h.n1
  have n2 := h.n2
  have n4 := h.n4
  have n1' := Ne.symm n1
  have n2' := Ne.symm n2
  have n4' := Ne.symm n4
  have HP := Lib.hid hp
  have HGF := Lib.hid hBgf
  have HAr := Lib.hid h
  clear e h h0 hir hB hB' hp hBgf hBnf hro ha hf hv
  generalize A.rn r = rn at *
  go_enter Try.func61, Try.ntmps61
  go_wp2_with ((go_at_call 101; refine HI.out.mono ?_; rintro e w1 ⟨rfl, rfl⟩))
  go_quiet (fail)
  go_wp2_with (fail)
  go_region
  go_wp2_with (fail)
  refine (HG.out _ (by rw [HBB.out]; (repeat (first | (with_reducible refine ArAt.drew ?_) | (with_reducible refine ArAt.drewN ?_ _) | (with_reducible refine ArAt.alloc ?_ _))); exact HW.out _ (by (repeat (first | (with_reducible refine ArAt.drew ?_) | (with_reducible refine ArAt.drewN ?_ _) | (with_reducible refine ArAt.alloc ?_ _))); exact HAr.out))).mono ?_
  rintro e w2 ⟨rfl, hA2, o2⟩
  rw [HGF.out] at o2
  have o3 : Only (A.blk b) ((w.alloc (.cells #[.int .i64 0, .int .i64 0, .int .u8 0, .int .i64 0, .int .i64 0] 54)).alloc (.cells #[.int .i64 v0, .int .i64 v1, .int .u8 v2, .int .i64 v3, .int .i64 v4, .int .i64 r, .int .i64 (-1), .int .i64 f] 168)) w2 := Only.trans' (by repeat' (first | (with_reducible exact Only.refl _ _) | (with_reducible assumption) | (refine Only.of_none ?_; with_reducible assumption) | (with_reducible refine Only.drewN ?_ _) | (with_reducible refine Only.drew ?_) | (with_reducible refine Only.alloc ?_ _) | (with_reducible refine Only.setCell ?_ ?_ _) | (with_reducible refine Only.then0 ?_ (by with_reducible assumption)) | (with_reducible refine Only.thenN ?_ (by with_reducible assumption) ?_) | (with_reducible refine Only.trans ?_ (by with_reducible assumption)) | (refine .inl ?_; first | rfl | (simp; done) | (simp [Ar.blk]; done)) | (refine .inr ?_; first | omega | (simp; done) | (simp; omega) | exact Only.size (by with_reducible assumption) | (refine Nat.le_trans (Only.size (by with_reducible assumption)) ?_; simp; done)))) o2 (fun i _ h => h.elim .inl (fun h => .inr (.inr (.inr h))))
  have hgfw := HAr.out.gf_lt
  have d00 := o3.cell (b := w.heap.size + 1) (o := 0) (v := .int .i64 v0) (by simp [go_sem]) (by unfold Ar.blk; omega)
  have d01 := o3.cell (b := w.heap.size + 1) (o := 1) (v := .int .i64 v1) (by simp [go_sem]) (by unfold Ar.blk; omega)
  have d02 := o3.cell (b := w.heap.size + 1) (o := 2) (v := .int .u8 v2) (by simp [go_sem]) (by unfold Ar.blk; omega)
  have d03 := o3.cell (b := w.heap.size + 1) (o := 3) (v := .int .i64 v3) (by simp [go_sem]) (by unfold Ar.blk; omega)
  have d04 := o3.cell (b := w.heap.size + 1) (o := 4) (v := .int .i64 v4) (by simp [go_sem]) (by unfold Ar.blk; omega)
  have zb0 := ((Cell.new (w := w) (cs := #[.int .i64 0, .int .i64 0, .int .u8 0, .int .i64 0, .int .i64 0]) (t := 54) (o := 0) rfl).alloc _).only o3 (by show ¬ A.blk b w.heap.size; unfold Ar.blk; omega)
  have zc0 := zb0.cell
  have zf0 := zb0.free
  have zb1 := ((Cell.new (w := w) (cs := #[.int .i64 0, .int .i64 0, .int .u8 0, .int .i64 0, .int .i64 0]) (t := 54) (o := 1) rfl).alloc _).only o3 (by show ¬ A.blk b w.heap.size; unfold Ar.blk; omega)
  have zc1 := zb1.cell
  have zf1 := zb1.free
  have zb2 := ((Cell.new (w := w) (cs := #[.int .i64 0, .int .i64 0, .int .u8 0, .int .i64 0, .int .i64 0]) (t := 54) (o := 2) rfl).alloc _).only o3 (by show ¬ A.blk b w.heap.size; unfold Ar.blk; omega)
  have zc2 := zb2.cell
  have zf2 := zb2.free
  have zb3 := ((Cell.new (w := w) (cs := #[.int .i64 0, .int .i64 0, .int .u8 0, .int .i64 0, .int .i64 0]) (t := 54) (o := 3) rfl).alloc _).only o3 (by show ¬ A.blk b w.heap.size; unfold Ar.blk; omega)
  have zc3 := zb3.cell
  have zf3 := zb3.free
  have zb4 := ((Cell.new (w := w) (cs := #[.int .i64 0, .int .i64 0, .int .u8 0, .int .i64 0, .int .i64 0]) (t := 54) (o := 4) rfl).alloc _).only o3 (by show ¬ A.blk b w.heap.size; unfold Ar.blk; omega)
  have zc4 := zb4.cell
  have zf4 := zb4.free
  have rr0 : (((((w2.setCell ⟨w.heap.size, 0, none⟩ (.int .i64 v0)).setCell ⟨w.heap.size, 1, none⟩ (.int .i64 v1)).setCell ⟨w.heap.size, 2, none⟩ (.int .u8 v2)).setCell ⟨w.heap.size, 3, none⟩ (.int .i64 v3)).setCell ⟨w.heap.size, 4, none⟩ (.int .i64 v4)).cell? ⟨w.heap.size, 0, none⟩ = some (.int .i64 v0) := (show Cell (((((w2.setCell ⟨w.heap.size, 0, none⟩ (.int .i64 v0)).setCell ⟨w.heap.size, 1, none⟩ (.int .i64 v1)).setCell ⟨w.heap.size, 2, none⟩ (.int .u8 v2)).setCell ⟨w.heap.size, 3, none⟩ (.int .i64 v3)).setCell ⟨w.heap.size, 4, none⟩ (.int .i64 v4)) w.heap.size 0 (.int .i64 v0) from (((((zb0.set _).far (off_ne (by decide)) _).far (off_ne (by decide)) _).far (off_ne (by decide)) _).far (off_ne (by decide)) _)).cell
  have rr1 : (((((w2.setCell ⟨w.heap.size, 0, none⟩ (.int .i64 v0)).setCell ⟨w.heap.size, 1, none⟩ (.int .i64 v1)).setCell ⟨w.heap.size, 2, none⟩ (.int .u8 v2)).setCell ⟨w.heap.size, 3, none⟩ (.int .i64 v3)).setCell ⟨w.heap.size, 4, none⟩ (.int .i64 v4)).cell? ⟨w.heap.size, 1, none⟩ = some (.int .i64 v1) := (show Cell (((((w2.setCell ⟨w.heap.size, 0, none⟩ (.int .i64 v0)).setCell ⟨w.heap.size, 1, none⟩ (.int .i64 v1)).setCell ⟨w.heap.size, 2, none⟩ (.int .u8 v2)).setCell ⟨w.heap.size, 3, none⟩ (.int .i64 v3)).setCell ⟨w.heap.size, 4, none⟩ (.int .i64 v4)) w.heap.size 1 (.int .i64 v1) from (((((zb1.far (off_ne (by decide)) _).set _).far (off_ne (by decide)) _).far (off_ne (by decide)) _).far (off_ne (by decide)) _)).cell
  have rr2 : (((((w2.setCell ⟨w.heap.size, 0, none⟩ (.int .i64 v0)).setCell ⟨w.heap.size, 1, none⟩ (.int .i64 v1)).setCell ⟨w.heap.size, 2, none⟩ (.int .u8 v2)).setCell ⟨w.heap.size, 3, none⟩ (.int .i64 v3)).setCell ⟨w.heap.size, 4, none⟩ (.int .i64 v4)).cell? ⟨w.heap.size, 2, none⟩ = some (.int .u8 v2) := (show Cell (((((w2.setCell ⟨w.heap.size, 0, none⟩ (.int .i64 v0)).setCell ⟨w.heap.size, 1, none⟩ (.int .i64 v1)).setCell ⟨w.heap.size, 2, none⟩ (.int .u8 v2)).setCell ⟨w.heap.size, 3, none⟩ (.int .i64 v3)).setCell ⟨w.heap.size, 4, none⟩ (.int .i64 v4)) w.heap.size 2 (.int .u8 v2) from (((((zb2.far (off_ne (by decide)) _).far (off_ne (by decide)) _).set _).far (off_ne (by decide)) _).far (off_ne (by decide)) _)).cell
  have rr3 : (((((w2.setCell ⟨w.heap.size, 0, none⟩ (.int .i64 v0)).setCell ⟨w.heap.size, 1, none⟩ (.int .i64 v1)).setCell ⟨w.heap.size, 2, none⟩ (.int .u8 v2)).setCell ⟨w.heap.size, 3, none⟩ (.int .i64 v3)).setCell ⟨w.heap.size, 4, none⟩ (.int .i64 v4)).cell? ⟨w.heap.size, 3, none⟩ = some (.int .i64 v3) := (show Cell (((((w2.setCell ⟨w.heap.size, 0, none⟩ (.int .i64 v0)).setCell ⟨w.heap.size, 1, none⟩ (.int .i64 v1)).setCell ⟨w.heap.size, 2, none⟩ (.int .u8 v2)).setCell ⟨w.heap.size, 3, none⟩ (.int .i64 v3)).setCell ⟨w.heap.size, 4, none⟩ (.int .i64 v4)) w.heap.size 3 (.int .i64 v3) from (((((zb3.far (off_ne (by decide)) _).far (off_ne (by decide)) _).far (off_ne (by decide)) _).set _).far (off_ne (by decide)) _)).cell
  have rr4 : (((((w2.setCell ⟨w.heap.size, 0, none⟩ (.int .i64 v0)).setCell ⟨w.heap.size, 1, none⟩ (.int .i64 v1)).setCell ⟨w.heap.size, 2, none⟩ (.int .u8 v2)).setCell ⟨w.heap.size, 3, none⟩ (.int .i64 v3)).setCell ⟨w.heap.size, 4, none⟩ (.int .i64 v4)).cell? ⟨w.heap.size, 4, none⟩ = some (.int .i64 v4) := (show Cell (((((w2.setCell ⟨w.heap.size, 0, none⟩ (.int .i64 v0)).setCell ⟨w.heap.size, 1, none⟩ (.int .i64 v1)).setCell ⟨w.heap.size, 2, none⟩ (.int .u8 v2)).setCell ⟨w.heap.size, 3, none⟩ (.int .i64 v3)).setCell ⟨w.heap.size, 4, none⟩ (.int .i64 v4)) w.heap.size 4 (.int .i64 v4) from (((((zb4.far (off_ne (by decide)) _).far (off_ne (by decide)) _).far (off_ne (by decide)) _).far (off_ne (by decide)) _).set _)).cell
  have OZ := Lib.hid (show Only (· = w.heap.size) w2 (((((w2.setCell ⟨w.heap.size, 0, none⟩ (.int .i64 v0)).setCell ⟨w.heap.size, 1, none⟩ (.int .i64 v1)).setCell ⟨w.heap.size, 2, none⟩ (.int .u8 v2)).setCell ⟨w.heap.size, 3, none⟩ (.int .i64 v3)).setCell ⟨w.heap.size, 4, none⟩ (.int .i64 v4)) from (((((Only.refl (· = w.heap.size) w2).setCell (.inl rfl) _).setCell (.inl rfl) _).setCell (.inl rfl) _).setCell (.inl rfl) _).setCell (.inl rfl) _)
  have HA2 := Lib.hid hA2
  have O3 := Lib.hid o3
  clear hA2 o2 zb0 zb1 zb2 zb3 zb4 o3
  go_wp2
  refine bodyPost_ret (by simp [results, Try.results61, go_sem, rr0, rr1, rr2, rr3, rr4]; try rfl) rfl ?_
  refine ⟨rfl, by rw [HP.out]; exact ArAt.only HA2.out OZ.out (by show ¬ (b = w.heap.size); omega) (by rw [show (B.give n).gl = A.gl by rw [HBB.out]; rfl]; show ¬ (A.gl = w.heap.size); omega) (by rw [show (B.give n).gr = A.gr by rw [HBB.out]; rfl]; show ¬ (A.gr = w.heap.size); omega) (by rw [show (B.give n).gf = A.gf by rw [HBB.out]; rfl]; show ¬ (A.gf = w.heap.size); omega), ?_⟩
  exact ((((Only.refl _ w).alloc _).alloc _).trans O3.out).trans' OZ.out (fun i hi e => by omega)

set_option maxHeartbeats 4000000 in
set_option maxRecDepth 100000 in
theorem s_take_sn (w : World) (b : Nat) (A : Ar) (n r : Nat) (v0 v1 v2 v3 v4 : Int) (h : ArAt w b A) (hn : n < A.room) (hro : A.ro n = (r : Int)) (hr : r < A.nr) (hv : A.th n = .agg #[.int .i64 v0, .int .i64 v1, .int .u8 v2, .int .i64 v3, .int .i64 v4]) (hc : 1 ≤ A.rn r ∧ A.rn r ≤ 65536) (hnf : A.nf < A.room) (a : Nat) (ha : A.ah n = (a : Int)) (har : a < A.room) (han : a ≠ n) (hf : A.fa n = -1) :
    Calls Try.prog 61 #[.pointer (some ⟨b, 0, none⟩), .int .i64 n] w fun e w' => e = .returned (.tuple #[.agg #[.int .i64 v0, .int .i64 v1, .int .u8 v2, .int .i64 v3, .int .i64 v4], .bool true]) ∧ ArAt w' b (A.take n (.agg #[.int .i64 0, .int .i64 0, .int .u8 0, .int .i64 0, .int .i64 0])) ∧ Only (A.blk b) w w' := by
  have hir : A.hasN n := ⟨⟨by omega, by omega⟩, by rw [Int.toNat_natCast, hro]; omega⟩
  have h0 := h.alloc (.cells #[.int .i64 0, .int .i64 0, .int .u8 0, .int .i64 0, .int .i64 0] 54)
  have HI := Lib.hid (s_has _ b A n h0)
  have e : decide (A.hasN n) = true := by simp [hir]
  rw [e] at HI
  have hs := h.small
  have hp : A.take n (.agg #[.int .i64 0, .int .i64 0, .int .u8 0, .int .i64 0, .int .i64 0]) = ((A.cut n r).wipe n (.agg #[.int .i64 0, .int .i64 0, .int .u8 0, .int .i64 0, .int .i64 0])).give n := by unfold Ar.take; rw [hro]; rfl
  obtain ⟨B, hB⟩ : ∃ B : Ar, B = (A.cut n r).wipe n (.agg #[.int .i64 0, .int .i64 0, .int .u8 0, .int .i64 0, .int .i64 0]) := ⟨_, rfl⟩
  rw [← hB] at hp
  have hBnf : B.nf < B.room := by rw [hB]; exact hnf
  have hBgf : B.gf = A.gf := by rw [hB]; rfl
  have HG := Lib.hid (fun W (hW : ArAt W b B) => s_give W b B n hW hBnf)
  have HW := Lib.hid (fun W (hW : ArAt W b A) => (((((((hW.set_fa (i := a) (by omega) (A.fa n)).set_rl (i := r) (by simp only; omega) (A.ah n)).set_rn (i := r) (by simp only; omega) (A.rn r - 1)).set_th (i := n) (by simp only; omega) (.int .i64 0) (.int .i64 0) (.int .u8 0) (.int .i64 0) (.int .i64 0)).set_ro (i := n) (by simp only; omega) (-1)).set_ah (i := n) (by simp only; omega) 0).set_fa (i := n) (by simp only; omega) 0))
  have hB' : B = { A with rf := A.rf, fa := upd (upd A.fa a (A.fa n)) n 0, rl := upd A.rl r (A.ah n), ah := upd (A.ah) n 0, rn := upd A.rn r (A.rn r - 1), th := upd A.th n (.agg #[.int .i64 0, .int .i64 0, .int .u8 0, .int .i64 0, .int .i64 0]), ro := upd A.ro n (-1) } := by
    rw [hB]; unfold Ar.cut Ar.wipe; simp [ha, hf]
  simp only [ha, hf, put5] at HW hB'
  have HBB := Lib.hid hB'
  have c0 := h0.c0.cell
  have c1 := h0.c1.cell
  have c2 := h0.c2.cell
  have hbw := h0.c0.lt
  have hbw0 := h.c0.lt
  have hglw := h0.lr.1
  have hglw0 := h.lr.1
  have hgrw := h0.lr.2
  have hgrw0 := h.lr.2
  obtain ⟨t00, u00⟩ := h0.l0 n (by omega) 0 (.int .i64 v0) (by rw [hv]; rfl)
  obtain ⟨t01, u01⟩ := h0.l0 n (by omega) 1 (.int .i64 v1) (by rw [hv]; rfl)
  obtain ⟨t02, u02⟩ := h0.l0 n (by omega) 2 (.int .u8 v2) (by rw [hv]; rfl)
  obtain ⟨t03, u03⟩ := h0.l0 n (by omega) 3 (.int .i64 v3) (by rw [hv]; rfl)
  obtain ⟨t04, u04⟩ := h0.l0 n (by omega) 4 (.int .i64 v4) (by rw [hv]; rfl)
  rw [Nat.add_zero] at t00 u00
  obtain ⟨t1, u1⟩ := h0.l1 n (by omega)
  obtain ⟨t2, u2⟩ := h0.l2 n (by omega)
  obtain ⟨t3, u3⟩ := h0.l3 n (by omega)
  obtain ⟨q0, p0⟩ := h0.r0 r (by omega)
  obtain ⟨q1, p1⟩ := h0.r1 r (by omega)
  obtain ⟨q2, p2⟩ := h0.r2 r (by omega)
  rw [hro] at t1
  rw [ha] at t2
  rw [hf] at t3
  obtain ⟨t4, u4⟩ := h0.l3 a (by omega)
  have ea : ((a : Int) == -1) = false := by simp
  have n1 := h.n1
  have n2 := h.n2
  have n4 := h.n4
  have n1' := Ne.symm n1
  have n2' := Ne.symm n2
  have n4' := Ne.symm n4
  have HP := Lib.hid hp
  have HGF := Lib.hid hBgf
  have HAr := Lib.hid h
  clear e h h0 hir hB hB' hp hBgf hBnf hro ha hf hv
  generalize A.rn r = rn at *
  go_enter Try.func61, Try.ntmps61
  go_wp2_with ((go_at_call 101; refine HI.out.mono ?_; rintro e w1 ⟨rfl, rfl⟩))
  go_quiet (fail)
  go_wp2_with (fail)
  go_region
  go_wp2_with (fail)
  refine (HG.out _ (by rw [HBB.out]; (repeat (first | (with_reducible refine ArAt.drew ?_) | (with_reducible refine ArAt.drewN ?_ _) | (with_reducible refine ArAt.alloc ?_ _))); exact HW.out _ (by (repeat (first | (with_reducible refine ArAt.drew ?_) | (with_reducible refine ArAt.drewN ?_ _) | (with_reducible refine ArAt.alloc ?_ _))); exact HAr.out))).mono ?_
  rintro e w2 ⟨rfl, hA2, o2⟩
  rw [HGF.out] at o2
  have o3 : Only (A.blk b) ((w.alloc (.cells #[.int .i64 0, .int .i64 0, .int .u8 0, .int .i64 0, .int .i64 0] 54)).alloc (.cells #[.int .i64 v0, .int .i64 v1, .int .u8 v2, .int .i64 v3, .int .i64 v4, .int .i64 r, .int .i64 a, .int .i64 (-1)] 168)) w2 := Only.trans' (by repeat' (first | (with_reducible exact Only.refl _ _) | (with_reducible assumption) | (refine Only.of_none ?_; with_reducible assumption) | (with_reducible refine Only.drewN ?_ _) | (with_reducible refine Only.drew ?_) | (with_reducible refine Only.alloc ?_ _) | (with_reducible refine Only.setCell ?_ ?_ _) | (with_reducible refine Only.then0 ?_ (by with_reducible assumption)) | (with_reducible refine Only.thenN ?_ (by with_reducible assumption) ?_) | (with_reducible refine Only.trans ?_ (by with_reducible assumption)) | (refine .inl ?_; first | rfl | (simp; done) | (simp [Ar.blk]; done)) | (refine .inr ?_; first | omega | (simp; done) | (simp; omega) | exact Only.size (by with_reducible assumption) | (refine Nat.le_trans (Only.size (by with_reducible assumption)) ?_; simp; done)))) o2 (fun i _ h => h.elim .inl (fun h => .inr (.inr (.inr h))))
  have hgfw := HAr.out.gf_lt
  have d00 := o3.cell (b := w.heap.size + 1) (o := 0) (v := .int .i64 v0) (by simp [go_sem]) (by unfold Ar.blk; omega)
  have d01 := o3.cell (b := w.heap.size + 1) (o := 1) (v := .int .i64 v1) (by simp [go_sem]) (by unfold Ar.blk; omega)
  have d02 := o3.cell (b := w.heap.size + 1) (o := 2) (v := .int .u8 v2) (by simp [go_sem]) (by unfold Ar.blk; omega)
  have d03 := o3.cell (b := w.heap.size + 1) (o := 3) (v := .int .i64 v3) (by simp [go_sem]) (by unfold Ar.blk; omega)
  have d04 := o3.cell (b := w.heap.size + 1) (o := 4) (v := .int .i64 v4) (by simp [go_sem]) (by unfold Ar.blk; omega)
  have zb0 := ((Cell.new (w := w) (cs := #[.int .i64 0, .int .i64 0, .int .u8 0, .int .i64 0, .int .i64 0]) (t := 54) (o := 0) rfl).alloc _).only o3 (by show ¬ A.blk b w.heap.size; unfold Ar.blk; omega)
  have zc0 := zb0.cell
  have zf0 := zb0.free
  have zb1 := ((Cell.new (w := w) (cs := #[.int .i64 0, .int .i64 0, .int .u8 0, .int .i64 0, .int .i64 0]) (t := 54) (o := 1) rfl).alloc _).only o3 (by show ¬ A.blk b w.heap.size; unfold Ar.blk; omega)
  have zc1 := zb1.cell
  have zf1 := zb1.free
  have zb2 := ((Cell.new (w := w) (cs := #[.int .i64 0, .int .i64 0, .int .u8 0, .int .i64 0, .int .i64 0]) (t := 54) (o := 2) rfl).alloc _).only o3 (by show ¬ A.blk b w.heap.size; unfold Ar.blk; omega)
  have zc2 := zb2.cell
  have zf2 := zb2.free
  have zb3 := ((Cell.new (w := w) (cs := #[.int .i64 0, .int .i64 0, .int .u8 0, .int .i64 0, .int .i64 0]) (t := 54) (o := 3) rfl).alloc _).only o3 (by show ¬ A.blk b w.heap.size; unfold Ar.blk; omega)
  have zc3 := zb3.cell
  have zf3 := zb3.free
  have zb4 := ((Cell.new (w := w) (cs := #[.int .i64 0, .int .i64 0, .int .u8 0, .int .i64 0, .int .i64 0]) (t := 54) (o := 4) rfl).alloc _).only o3 (by show ¬ A.blk b w.heap.size; unfold Ar.blk; omega)
  have zc4 := zb4.cell
  have zf4 := zb4.free
  have rr0 : (((((w2.setCell ⟨w.heap.size, 0, none⟩ (.int .i64 v0)).setCell ⟨w.heap.size, 1, none⟩ (.int .i64 v1)).setCell ⟨w.heap.size, 2, none⟩ (.int .u8 v2)).setCell ⟨w.heap.size, 3, none⟩ (.int .i64 v3)).setCell ⟨w.heap.size, 4, none⟩ (.int .i64 v4)).cell? ⟨w.heap.size, 0, none⟩ = some (.int .i64 v0) := (show Cell (((((w2.setCell ⟨w.heap.size, 0, none⟩ (.int .i64 v0)).setCell ⟨w.heap.size, 1, none⟩ (.int .i64 v1)).setCell ⟨w.heap.size, 2, none⟩ (.int .u8 v2)).setCell ⟨w.heap.size, 3, none⟩ (.int .i64 v3)).setCell ⟨w.heap.size, 4, none⟩ (.int .i64 v4)) w.heap.size 0 (.int .i64 v0) from (((((zb0.set _).far (off_ne (by decide)) _).far (off_ne (by decide)) _).far (off_ne (by decide)) _).far (off_ne (by decide)) _)).cell
  have rr1 : (((((w2.setCell ⟨w.heap.size, 0, none⟩ (.int .i64 v0)).setCell ⟨w.heap.size, 1, none⟩ (.int .i64 v1)).setCell ⟨w.heap.size, 2, none⟩ (.int .u8 v2)).setCell ⟨w.heap.size, 3, none⟩ (.int .i64 v3)).setCell ⟨w.heap.size, 4, none⟩ (.int .i64 v4)).cell? ⟨w.heap.size, 1, none⟩ = some (.int .i64 v1) := (show Cell (((((w2.setCell ⟨w.heap.size, 0, none⟩ (.int .i64 v0)).setCell ⟨w.heap.size, 1, none⟩ (.int .i64 v1)).setCell ⟨w.heap.size, 2, none⟩ (.int .u8 v2)).setCell ⟨w.heap.size, 3, none⟩ (.int .i64 v3)).setCell ⟨w.heap.size, 4, none⟩ (.int .i64 v4)) w.heap.size 1 (.int .i64 v1) from (((((zb1.far (off_ne (by decide)) _).set _).far (off_ne (by decide)) _).far (off_ne (by decide)) _).far (off_ne (by decide)) _)).cell
  have rr2 : (((((w2.setCell ⟨w.heap.size, 0, none⟩ (.int .i64 v0)).setCell ⟨w.heap.size, 1, none⟩ (.int .i64 v1)).setCell ⟨w.heap.size, 2, none⟩ (.int .u8 v2)).setCell ⟨w.heap.size, 3, none⟩ (.int .i64 v3)).setCell ⟨w.heap.size, 4, none⟩ (.int .i64 v4)).cell? ⟨w.heap.size, 2, none⟩ = some (.int .u8 v2) := (show Cell (((((w2.setCell ⟨w.heap.size, 0, none⟩ (.int .i64 v0)).setCell ⟨w.heap.size, 1, none⟩ (.int .i64 v1)).setCell ⟨w.heap.size, 2, none⟩ (.int .u8 v2)).setCell ⟨w.heap.size, 3, none⟩ (.int .i64 v3)).setCell ⟨w.heap.size, 4, none⟩ (.int .i64 v4)) w.heap.size 2 (.int .u8 v2) from (((((zb2.far (off_ne (by decide)) _).far (off_ne (by decide)) _).set _).far (off_ne (by decide)) _).far (off_ne (by decide)) _)).cell
  have rr3 : (((((w2.setCell ⟨w.heap.size, 0, none⟩ (.int .i64 v0)).setCell ⟨w.heap.size, 1, none⟩ (.int .i64 v1)).setCell ⟨w.heap.size, 2, none⟩ (.int .u8 v2)).setCell ⟨w.heap.size, 3, none⟩ (.int .i64 v3)).setCell ⟨w.heap.size, 4, none⟩ (.int .i64 v4)).cell? ⟨w.heap.size, 3, none⟩ = some (.int .i64 v3) := (show Cell (((((w2.setCell ⟨w.heap.size, 0, none⟩ (.int .i64 v0)).setCell ⟨w.heap.size, 1, none⟩ (.int .i64 v1)).setCell ⟨w.heap.size, 2, none⟩ (.int .u8 v2)).setCell ⟨w.heap.size, 3, none⟩ (.int .i64 v3)).setCell ⟨w.heap.size, 4, none⟩ (.int .i64 v4)) w.heap.size 3 (.int .i64 v3) from (((((zb3.far (off_ne (by decide)) _).far (off_ne (by decide)) _).far (off_ne (by decide)) _).set _).far (off_ne (by decide)) _)).cell
  have rr4 : (((((w2.setCell ⟨w.heap.size, 0, none⟩ (.int .i64 v0)).setCell ⟨w.heap.size, 1, none⟩ (.int .i64 v1)).setCell ⟨w.heap.size, 2, none⟩ (.int .u8 v2)).setCell ⟨w.heap.size, 3, none⟩ (.int .i64 v3)).setCell ⟨w.heap.size, 4, none⟩ (.int .i64 v4)).cell? ⟨w.heap.size, 4, none⟩ = some (.int .i64 v4) := (show Cell (((((w2.setCell ⟨w.heap.size, 0, none⟩ (.int .i64 v0)).setCell ⟨w.heap.size, 1, none⟩ (.int .i64 v1)).setCell ⟨w.heap.size, 2, none⟩ (.int .u8 v2)).setCell ⟨w.heap.size, 3, none⟩ (.int .i64 v3)).setCell ⟨w.heap.size, 4, none⟩ (.int .i64 v4)) w.heap.size 4 (.int .i64 v4) from (((((zb4.far (off_ne (by decide)) _).far (off_ne (by decide)) _).far (off_ne (by decide)) _).far (off_ne (by decide)) _).set _)).cell
  have OZ := Lib.hid (show Only (· = w.heap.size) w2 (((((w2.setCell ⟨w.heap.size, 0, none⟩ (.int .i64 v0)).setCell ⟨w.heap.size, 1, none⟩ (.int .i64 v1)).setCell ⟨w.heap.size, 2, none⟩ (.int .u8 v2)).setCell ⟨w.heap.size, 3, none⟩ (.int .i64 v3)).setCell ⟨w.heap.size, 4, none⟩ (.int .i64 v4)) from (((((Only.refl (· = w.heap.size) w2).setCell (.inl rfl) _).setCell (.inl rfl) _).setCell (.inl rfl) _).setCell (.inl rfl) _).setCell (.inl rfl) _)
  have HA2 := Lib.hid hA2
  have O3 := Lib.hid o3
  clear hA2 o2 zb0 zb1 zb2 zb3 zb4 o3
  go_wp2
  refine bodyPost_ret (by simp [results, Try.results61, go_sem, rr0, rr1, rr2, rr3, rr4]; try rfl) rfl ?_
  refine ⟨rfl, by rw [HP.out]; exact ArAt.only HA2.out OZ.out (by show ¬ (b = w.heap.size); omega) (by rw [show (B.give n).gl = A.gl by rw [HBB.out]; rfl]; show ¬ (A.gl = w.heap.size); omega) (by rw [show (B.give n).gr = A.gr by rw [HBB.out]; rfl]; show ¬ (A.gr = w.heap.size); omega) (by rw [show (B.give n).gf = A.gf by rw [HBB.out]; rfl]; show ¬ (A.gf = w.heap.size); omega), ?_⟩
  exact ((((Only.refl _ w).alloc _).alloc _).trans O3.out).trans' OZ.out (fun i hi e => by omega)

set_option maxHeartbeats 4000000 in
set_option maxRecDepth 100000 in
theorem s_take_ss (w : World) (b : Nat) (A : Ar) (n r : Nat) (v0 v1 v2 v3 v4 : Int) (h : ArAt w b A) (hn : n < A.room) (hro : A.ro n = (r : Int)) (hr : r < A.nr) (hv : A.th n = .agg #[.int .i64 v0, .int .i64 v1, .int .u8 v2, .int .i64 v3, .int .i64 v4]) (hc : 1 ≤ A.rn r ∧ A.rn r ≤ 65536) (hnf : A.nf < A.room) (a : Nat) (ha : A.ah n = (a : Int)) (har : a < A.room) (han : a ≠ n) (f : Nat) (hf : A.fa n = (f : Int)) (hfr : f < A.room) (hfn : f ≠ n) (haf : a ≠ f) :
    Calls Try.prog 61 #[.pointer (some ⟨b, 0, none⟩), .int .i64 n] w fun e w' => e = .returned (.tuple #[.agg #[.int .i64 v0, .int .i64 v1, .int .u8 v2, .int .i64 v3, .int .i64 v4], .bool true]) ∧ ArAt w' b (A.take n (.agg #[.int .i64 0, .int .i64 0, .int .u8 0, .int .i64 0, .int .i64 0])) ∧ Only (A.blk b) w w' := by
  have hir : A.hasN n := ⟨⟨by omega, by omega⟩, by rw [Int.toNat_natCast, hro]; omega⟩
  have h0 := h.alloc (.cells #[.int .i64 0, .int .i64 0, .int .u8 0, .int .i64 0, .int .i64 0] 54)
  have HI := Lib.hid (s_has _ b A n h0)
  have e : decide (A.hasN n) = true := by simp [hir]
  rw [e] at HI
  have hs := h.small
  have hp : A.take n (.agg #[.int .i64 0, .int .i64 0, .int .u8 0, .int .i64 0, .int .i64 0]) = ((A.cut n r).wipe n (.agg #[.int .i64 0, .int .i64 0, .int .u8 0, .int .i64 0, .int .i64 0])).give n := by unfold Ar.take; rw [hro]; rfl
  obtain ⟨B, hB⟩ : ∃ B : Ar, B = (A.cut n r).wipe n (.agg #[.int .i64 0, .int .i64 0, .int .u8 0, .int .i64 0, .int .i64 0]) := ⟨_, rfl⟩
  rw [← hB] at hp
  have hBnf : B.nf < B.room := by rw [hB]; exact hnf
  have hBgf : B.gf = A.gf := by rw [hB]; rfl
  have HG := Lib.hid (fun W (hW : ArAt W b B) => s_give W b B n hW hBnf)
  have HW := Lib.hid (fun W (hW : ArAt W b A) => (((((((hW.set_fa (i := a) (by omega) (A.fa n)).set_ah (i := f) (by simp only; omega) (A.ah n)).set_rn (i := r) (by simp only; omega) (A.rn r - 1)).set_th (i := n) (by simp only; omega) (.int .i64 0) (.int .i64 0) (.int .u8 0) (.int .i64 0) (.int .i64 0)).set_ro (i := n) (by simp only; omega) (-1)).set_ah (i := n) (by simp only; omega) 0).set_fa (i := n) (by simp only; omega) 0))
  have hB' : B = { A with rf := A.rf, fa := upd (upd A.fa a (A.fa n)) n 0, rl := A.rl, ah := upd (upd A.ah f (A.ah n)) n 0, rn := upd A.rn r (A.rn r - 1), th := upd A.th n (.agg #[.int .i64 0, .int .i64 0, .int .u8 0, .int .i64 0, .int .i64 0]), ro := upd A.ro n (-1) } := by
    rw [hB]; unfold Ar.cut Ar.wipe; simp [ha, hf]
  simp only [ha, hf, put5] at HW hB'
  have HBB := Lib.hid hB'
  have c0 := h0.c0.cell
  have c1 := h0.c1.cell
  have c2 := h0.c2.cell
  have hbw := h0.c0.lt
  have hbw0 := h.c0.lt
  have hglw := h0.lr.1
  have hglw0 := h.lr.1
  have hgrw := h0.lr.2
  have hgrw0 := h.lr.2
  obtain ⟨t00, u00⟩ := h0.l0 n (by omega) 0 (.int .i64 v0) (by rw [hv]; rfl)
  obtain ⟨t01, u01⟩ := h0.l0 n (by omega) 1 (.int .i64 v1) (by rw [hv]; rfl)
  obtain ⟨t02, u02⟩ := h0.l0 n (by omega) 2 (.int .u8 v2) (by rw [hv]; rfl)
  obtain ⟨t03, u03⟩ := h0.l0 n (by omega) 3 (.int .i64 v3) (by rw [hv]; rfl)
  obtain ⟨t04, u04⟩ := h0.l0 n (by omega) 4 (.int .i64 v4) (by rw [hv]; rfl)
  rw [Nat.add_zero] at t00 u00
  obtain ⟨t1, u1⟩ := h0.l1 n (by omega)
  obtain ⟨t2, u2⟩ := h0.l2 n (by omega)
  obtain ⟨t3, u3⟩ := h0.l3 n (by omega)
  obtain ⟨q0, p0⟩ := h0.r0 r (by omega)
  obtain ⟨q1, p1⟩ := h0.r1 r (by omega)
  obtain ⟨q2, p2⟩ := h0.r2 r (by omega)
  rw [hro] at t1
  rw [ha] at t2
  rw [hf] at t3
  obtain ⟨t4, u4⟩ := h0.l3 a (by omega)
  have ea : ((a : Int) == -1) = false := by simp
  obtain ⟨t5, u5⟩ := h0.l2 f (by omega)
  have ef : ((f : Int) == -1) = false := by simp
  have n1 := h.n1
  have n2 := h.n2
  have n4 := h.n4
  have n1' := Ne.symm n1
  have n2' := Ne.symm n2
  have n4' := Ne.symm n4
  have HP := Lib.hid hp
  have HGF := Lib.hid hBgf
  have HAr := Lib.hid h
  clear e h h0 hir hB hB' hp hBgf hBnf hro ha hf hv
  generalize A.rn r = rn at *
  go_enter Try.func61, Try.ntmps61
  go_wp2_with ((go_at_call 101; refine HI.out.mono ?_; rintro e w1 ⟨rfl, rfl⟩))
  go_quiet (fail)
  go_wp2_with (fail)
  go_region
  go_wp2_with (fail)
  go_region
  go_wp2_with (fail)
  refine (HG.out _ (by rw [HBB.out]; (repeat (first | (with_reducible refine ArAt.drew ?_) | (with_reducible refine ArAt.drewN ?_ _) | (with_reducible refine ArAt.alloc ?_ _))); exact HW.out _ (by (repeat (first | (with_reducible refine ArAt.drew ?_) | (with_reducible refine ArAt.drewN ?_ _) | (with_reducible refine ArAt.alloc ?_ _))); exact HAr.out))).mono ?_
  rintro e w2 ⟨rfl, hA2, o2⟩
  rw [HGF.out] at o2
  have o3 : Only (A.blk b) ((w.alloc (.cells #[.int .i64 0, .int .i64 0, .int .u8 0, .int .i64 0, .int .i64 0] 54)).alloc (.cells #[.int .i64 v0, .int .i64 v1, .int .u8 v2, .int .i64 v3, .int .i64 v4, .int .i64 r, .int .i64 a, .int .i64 f] 168)) w2 := Only.trans' (by repeat' (first | (with_reducible exact Only.refl _ _) | (with_reducible assumption) | (refine Only.of_none ?_; with_reducible assumption) | (with_reducible refine Only.drewN ?_ _) | (with_reducible refine Only.drew ?_) | (with_reducible refine Only.alloc ?_ _) | (with_reducible refine Only.setCell ?_ ?_ _) | (with_reducible refine Only.then0 ?_ (by with_reducible assumption)) | (with_reducible refine Only.thenN ?_ (by with_reducible assumption) ?_) | (with_reducible refine Only.trans ?_ (by with_reducible assumption)) | (refine .inl ?_; first | rfl | (simp; done) | (simp [Ar.blk]; done)) | (refine .inr ?_; first | omega | (simp; done) | (simp; omega) | exact Only.size (by with_reducible assumption) | (refine Nat.le_trans (Only.size (by with_reducible assumption)) ?_; simp; done)))) o2 (fun i _ h => h.elim .inl (fun h => .inr (.inr (.inr h))))
  have hgfw := HAr.out.gf_lt
  have d00 := o3.cell (b := w.heap.size + 1) (o := 0) (v := .int .i64 v0) (by simp [go_sem]) (by unfold Ar.blk; omega)
  have d01 := o3.cell (b := w.heap.size + 1) (o := 1) (v := .int .i64 v1) (by simp [go_sem]) (by unfold Ar.blk; omega)
  have d02 := o3.cell (b := w.heap.size + 1) (o := 2) (v := .int .u8 v2) (by simp [go_sem]) (by unfold Ar.blk; omega)
  have d03 := o3.cell (b := w.heap.size + 1) (o := 3) (v := .int .i64 v3) (by simp [go_sem]) (by unfold Ar.blk; omega)
  have d04 := o3.cell (b := w.heap.size + 1) (o := 4) (v := .int .i64 v4) (by simp [go_sem]) (by unfold Ar.blk; omega)
  have zb0 := ((Cell.new (w := w) (cs := #[.int .i64 0, .int .i64 0, .int .u8 0, .int .i64 0, .int .i64 0]) (t := 54) (o := 0) rfl).alloc _).only o3 (by show ¬ A.blk b w.heap.size; unfold Ar.blk; omega)
  have zc0 := zb0.cell
  have zf0 := zb0.free
  have zb1 := ((Cell.new (w := w) (cs := #[.int .i64 0, .int .i64 0, .int .u8 0, .int .i64 0, .int .i64 0]) (t := 54) (o := 1) rfl).alloc _).only o3 (by show ¬ A.blk b w.heap.size; unfold Ar.blk; omega)
  have zc1 := zb1.cell
  have zf1 := zb1.free
  have zb2 := ((Cell.new (w := w) (cs := #[.int .i64 0, .int .i64 0, .int .u8 0, .int .i64 0, .int .i64 0]) (t := 54) (o := 2) rfl).alloc _).only o3 (by show ¬ A.blk b w.heap.size; unfold Ar.blk; omega)
  have zc2 := zb2.cell
  have zf2 := zb2.free
  have zb3 := ((Cell.new (w := w) (cs := #[.int .i64 0, .int .i64 0, .int .u8 0, .int .i64 0, .int .i64 0]) (t := 54) (o := 3) rfl).alloc _).only o3 (by show ¬ A.blk b w.heap.size; unfold Ar.blk; omega)
  have zc3 := zb3.cell
  have zf3 := zb3.free
  have zb4 := ((Cell.new (w := w) (cs := #[.int .i64 0, .int .i64 0, .int .u8 0, .int .i64 0, .int .i64 0]) (t := 54) (o := 4) rfl).alloc _).only o3 (by show ¬ A.blk b w.heap.size; unfold Ar.blk; omega)
  have zc4 := zb4.cell
  have zf4 := zb4.free
  have rr0 : (((((w2.setCell ⟨w.heap.size, 0, none⟩ (.int .i64 v0)).setCell ⟨w.heap.size, 1, none⟩ (.int .i64 v1)).setCell ⟨w.heap.size, 2, none⟩ (.int .u8 v2)).setCell ⟨w.heap.size, 3, none⟩ (.int .i64 v3)).setCell ⟨w.heap.size, 4, none⟩ (.int .i64 v4)).cell? ⟨w.heap.size, 0, none⟩ = some (.int .i64 v0) := (show Cell (((((w2.setCell ⟨w.heap.size, 0, none⟩ (.int .i64 v0)).setCell ⟨w.heap.size, 1, none⟩ (.int .i64 v1)).setCell ⟨w.heap.size, 2, none⟩ (.int .u8 v2)).setCell ⟨w.heap.size, 3, none⟩ (.int .i64 v3)).setCell ⟨w.heap.size, 4, none⟩ (.int .i64 v4)) w.heap.size 0 (.int .i64 v0) from (((((zb0.set _).far (off_ne (by decide)) _).far (off_ne (by decide)) _).far (off_ne (by decide)) _).far (off_ne (by decide)) _)).cell
  have rr1 : (((((w2.setCell ⟨w.heap.size, 0, none⟩ (.int .i64 v0)).setCell ⟨w.heap.size, 1, none⟩ (.int .i64 v1)).setCell ⟨w.heap.size, 2, none⟩ (.int .u8 v2)).setCell ⟨w.heap.size, 3, none⟩ (.int .i64 v3)).setCell ⟨w.heap.size, 4, none⟩ (.int .i64 v4)).cell? ⟨w.heap.size, 1, none⟩ = some (.int .i64 v1) := (show Cell (((((w2.setCell ⟨w.heap.size, 0, none⟩ (.int .i64 v0)).setCell ⟨w.heap.size, 1, none⟩ (.int .i64 v1)).setCell ⟨w.heap.size, 2, none⟩ (.int .u8 v2)).setCell ⟨w.heap.size, 3, none⟩ (.int .i64 v3)).setCell ⟨w.heap.size, 4, none⟩ (.int .i64 v4)) w.heap.size 1 (.int .i64 v1) from (((((zb1.far (off_ne (by decide)) _).set _).far (off_ne (by decide)) _).far (off_ne (by decide)) _).far (off_ne (by decide)) _)).cell
  have rr2 : (((((w2.setCell ⟨w.heap.size, 0, none⟩ (.int .i64 v0)).setCell ⟨w.heap.size, 1, none⟩ (.int .i64 v1)).setCell ⟨w.heap.size, 2, none⟩ (.int .u8 v2)).setCell ⟨w.heap.size, 3, none⟩ (.int .i64 v3)).setCell ⟨w.heap.size, 4, none⟩ (.int .i64 v4)).cell? ⟨w.heap.size, 2, none⟩ = some (.int .u8 v2) := (show Cell (((((w2.setCell ⟨w.heap.size, 0, none⟩ (.int .i64 v0)).setCell ⟨w.heap.size, 1, none⟩ (.int .i64 v1)).setCell ⟨w.heap.size, 2, none⟩ (.int .u8 v2)).setCell ⟨w.heap.size, 3, none⟩ (.int .i64 v3)).setCell ⟨w.heap.size, 4, none⟩ (.int .i64 v4)) w.heap.size 2 (.int .u8 v2) from (((((zb2.far (off_ne (by decide)) _).far (off_ne (by decide)) _).set _).far (off_ne (by decide)) _).far (off_ne (by decide)) _)).cell
  have rr3 : (((((w2.setCell ⟨w.heap.size, 0, none⟩ (.int .i64 v0)).setCell ⟨w.heap.size, 1, none⟩ (.int .i64 v1)).setCell ⟨w.heap.size, 2, none⟩ (.int .u8 v2)).setCell ⟨w.heap.size, 3, none⟩ (.int .i64 v3)).setCell ⟨w.heap.size, 4, none⟩ (.int .i64 v4)).cell? ⟨w.heap.size, 3, none⟩ = some (.int .i64 v3) := (show Cell (((((w2.setCell ⟨w.heap.size, 0, none⟩ (.int .i64 v0)).setCell ⟨w.heap.size, 1, none⟩ (.int .i64 v1)).setCell ⟨w.heap.size, 2, none⟩ (.int .u8 v2)).setCell ⟨w.heap.size, 3, none⟩ (.int .i64 v3)).setCell ⟨w.heap.size, 4, none⟩ (.int .i64 v4)) w.heap.size 3 (.int .i64 v3) from (((((zb3.far (off_ne (by decide)) _).far (off_ne (by decide)) _).far (off_ne (by decide)) _).set _).far (off_ne (by decide)) _)).cell
  have rr4 : (((((w2.setCell ⟨w.heap.size, 0, none⟩ (.int .i64 v0)).setCell ⟨w.heap.size, 1, none⟩ (.int .i64 v1)).setCell ⟨w.heap.size, 2, none⟩ (.int .u8 v2)).setCell ⟨w.heap.size, 3, none⟩ (.int .i64 v3)).setCell ⟨w.heap.size, 4, none⟩ (.int .i64 v4)).cell? ⟨w.heap.size, 4, none⟩ = some (.int .i64 v4) := (show Cell (((((w2.setCell ⟨w.heap.size, 0, none⟩ (.int .i64 v0)).setCell ⟨w.heap.size, 1, none⟩ (.int .i64 v1)).setCell ⟨w.heap.size, 2, none⟩ (.int .u8 v2)).setCell ⟨w.heap.size, 3, none⟩ (.int .i64 v3)).setCell ⟨w.heap.size, 4, none⟩ (.int .i64 v4)) w.heap.size 4 (.int .i64 v4) from (((((zb4.far (off_ne (by decide)) _).far (off_ne (by decide)) _).far (off_ne (by decide)) _).far (off_ne (by decide)) _).set _)).cell
  have OZ := Lib.hid (show Only (· = w.heap.size) w2 (((((w2.setCell ⟨w.heap.size, 0, none⟩ (.int .i64 v0)).setCell ⟨w.heap.size, 1, none⟩ (.int .i64 v1)).setCell ⟨w.heap.size, 2, none⟩ (.int .u8 v2)).setCell ⟨w.heap.size, 3, none⟩ (.int .i64 v3)).setCell ⟨w.heap.size, 4, none⟩ (.int .i64 v4)) from (((((Only.refl (· = w.heap.size) w2).setCell (.inl rfl) _).setCell (.inl rfl) _).setCell (.inl rfl) _).setCell (.inl rfl) _).setCell (.inl rfl) _)
  have HA2 := Lib.hid hA2
  have O3 := Lib.hid o3
  clear hA2 o2 zb0 zb1 zb2 zb3 zb4 o3
  go_wp2
  refine bodyPost_ret (by simp [results, Try.results61, go_sem, rr0, rr1, rr2, rr3, rr4]; try rfl) rfl ?_
  refine ⟨rfl, by rw [HP.out]; exact ArAt.only HA2.out OZ.out (by show ¬ (b = w.heap.size); omega) (by rw [show (B.give n).gl = A.gl by rw [HBB.out]; rfl]; show ¬ (A.gl = w.heap.size); omega) (by rw [show (B.give n).gr = A.gr by rw [HBB.out]; rfl]; show ¬ (A.gr = w.heap.size); omega) (by rw [show (B.give n).gf = A.gf by rw [HBB.out]; rfl]; show ¬ (A.gf = w.heap.size); omega), ?_⟩
  exact ((((Only.refl _ w).alloc _).alloc _).trans O3.out).trans' OZ.out (fun i hi e => by omega)
end Od
end Go.Proofs.Ytkglplngnjgnhaa
