/- Slots: Take, walked. Conditions: an arena as New lays it, its numbers in their ranges. -/
import Derived.Test.YtiiflgihjnlmcaaStr6
namespace Go.Proofs.Ytiiflgihjnlmcaa
set_option linter.unusedVariables false
set_option linter.unusedSimpArgs false
namespace Str
open Go.RowKit

set_option maxHeartbeats 1000000 in
theorem s_take_no (w : World) (b : Nat) (A : Ar) (n : Int) (h : ArAt w b A) (hr : ¬ A.hasN n) :
    Calls Try.prog 90 #[.pointer (some ⟨b, 0, none⟩), .int .i64 n] w fun e w' => e = .returned (.tuple #[.string ByteArray.empty, .bool false]) ∧ Only (fun _ => False) w w' := by
  have HI := Lib.hid (s_has w b A n h)
  have e : decide (A.hasN n) = false := by simp [hr]
  rw [e] at HI
  clear e h hr
  go_enter Try.func90, Try.ntmps90
  go_wp2_with ((go_at_call 133; refine HI.out.mono ?_; rintro e w1 ⟨rfl, rfl⟩))
  go_returns
  exact ⟨rfl, by repeat' (first | (with_reducible exact Only.refl _ _) | (with_reducible assumption) | (refine Only.of_none ?_; with_reducible assumption) | (with_reducible refine Only.drewN ?_ _) | (with_reducible refine Only.drew ?_) | (with_reducible refine Only.alloc ?_ _) | (with_reducible refine Only.setCell ?_ ?_ _) | (with_reducible refine Only.then0 ?_ (by with_reducible assumption)) | (with_reducible refine Only.thenN ?_ (by with_reducible assumption) ?_) | (with_reducible refine Only.trans ?_ (by with_reducible assumption)) | (refine .inl ?_; first | rfl | (simp; done) | (simp [Ar.blk]; done)) | (refine .inr ?_; first | omega | (simp; done) | (simp; omega) | exact Only.size (by with_reducible assumption) | (refine Nat.le_trans (Only.size (by with_reducible assumption)) ?_; simp; done)))⟩

set_option maxHeartbeats 4000000 in
set_option maxRecDepth 100000 in
theorem s_take_nn (w : World) (b : Nat) (A : Ar) (n r : Nat) (v : ByteArray) (h : ArAt w b A) (hn : n < A.room) (hro : A.ro n = (r : Int)) (hr : r < A.nr) (hv : A.th n = .string v) (hc : 1 ≤ A.rn r ∧ A.rn r ≤ 65536) (hnf : A.nf < A.room) (ha : A.ah n = -1) (hf : A.fa n = -1) :
    Calls Try.prog 90 #[.pointer (some ⟨b, 0, none⟩), .int .i64 n] w fun e w' => e = .returned (.tuple #[.string v, .bool true]) ∧ ArAt w' b (A.take n (.string ByteArray.empty)) ∧ Only (A.blk b) w w' := by
  have hir : A.hasN n := ⟨⟨by omega, by omega⟩, by rw [Int.toNat_natCast, hro]; omega⟩
  have HI := Lib.hid (s_has w b A n h)
  have e : decide (A.hasN n) = true := by simp [hir]
  rw [e] at HI
  have hs := h.small
  have hp : A.take n (.string ByteArray.empty) = ((A.cut n r).wipe n (.string ByteArray.empty)).give n := by unfold Ar.take; rw [hro]; rfl
  obtain ⟨B, hB⟩ : ∃ B : Ar, B = (A.cut n r).wipe n (.string ByteArray.empty) := ⟨_, rfl⟩
  rw [← hB] at hp
  have hBnf : B.nf < B.room := by rw [hB]; exact hnf
  have hBgf : B.gf = A.gf := by rw [hB]; rfl
  have HG := Lib.hid (fun W (hW : ArAt W b B) => s_give W b B n hW hBnf)
  have HW := Lib.hid (fun W (hW : ArAt W b A) => (((((((hW.set_rf (i := r) (by omega) (A.fa n)).set_rl (i := r) (by simp only; omega) (A.ah n)).set_rn (i := r) (by simp only; omega) (A.rn r - 1)).set_th (i := n) (by simp only; omega) (.string ByteArray.empty)).set_ro (i := n) (by simp only; omega) (-1)).set_ah (i := n) (by simp only; omega) 0).set_fa (i := n) (by simp only; omega) 0))
  have hB' : B = { A with rf := upd A.rf r (A.fa n), fa := upd (A.fa) n 0, rl := upd A.rl r (A.ah n), ah := upd (A.ah) n 0, rn := upd A.rn r (A.rn r - 1), th := upd A.th n (.string ByteArray.empty), ro := upd A.ro n (-1) } := by
    rw [hB]; unfold Ar.cut Ar.wipe; simp [ha, hf]
  simp only [ha, hf] at HW hB'
  have HBB := Lib.hid hB'
  have c0 := h.c0.cell
  have c1 := h.c1.cell
  have c2 := h.c2.cell
  have hbw := h.c0.lt
  have hglw := h.lr.1
  have hgrw := h.lr.2
  obtain ⟨t0, u0⟩ := h.l0 n (by omega)
  obtain ⟨t1, u1⟩ := h.l1 n (by omega)
  obtain ⟨t2, u2⟩ := h.l2 n (by omega)
  obtain ⟨t3, u3⟩ := h.l3 n (by omega)
  obtain ⟨q0, p0⟩ := h.r0 r (by omega)
  obtain ⟨q1, p1⟩ := h.r1 r (by omega)
  obtain ⟨q2, p2⟩ := h.r2 r (by omega)
  rw [hv] at t0
  rw [hro] at t1
  rw [ha] at t2
  rw [hf] at t3
  have n1 := h.n1
  have n2 := h.n2
  have n4 := h.n4
  have n1' := Ne.symm n1
  have n2' := Ne.symm n2
  have n4' := Ne.symm n4
  have HP := Lib.hid hp
  have HGF := Lib.hid hBgf
  have HAr := Lib.hid h
  clear e h hir hB hB' hp hBgf hBnf hro ha hf hv
  generalize A.rn r = rn at *
  go_enter Try.func90, Try.ntmps90
  go_wp2_with ((go_at_call 133; refine HI.out.mono ?_; rintro e w1 ⟨rfl, rfl⟩))
  go_quiet (fail)
  go_wp2_with (fail)
  refine (HG.out _ (by rw [HBB.out]; (repeat (first | (with_reducible refine ArAt.drew ?_) | (with_reducible refine ArAt.drewN ?_ _) | (with_reducible refine ArAt.alloc ?_ _))); exact HW.out _ (by (repeat (first | (with_reducible refine ArAt.drew ?_) | (with_reducible refine ArAt.drewN ?_ _) | (with_reducible refine ArAt.alloc ?_ _))); exact HAr.out))).mono ?_
  rintro e w2 ⟨rfl, hA2, o2⟩
  rw [HGF.out] at o2
  have o3 : Only (A.blk b) (w.alloc (.cells #[.string v, .int .i64 r, .int .i64 (-1), .int .i64 (-1)] 193)) w2 := Only.trans' (by repeat' (first | (with_reducible exact Only.refl _ _) | (with_reducible assumption) | (refine Only.of_none ?_; with_reducible assumption) | (with_reducible refine Only.drewN ?_ _) | (with_reducible refine Only.drew ?_) | (with_reducible refine Only.alloc ?_ _) | (with_reducible refine Only.setCell ?_ ?_ _) | (with_reducible refine Only.then0 ?_ (by with_reducible assumption)) | (with_reducible refine Only.thenN ?_ (by with_reducible assumption) ?_) | (with_reducible refine Only.trans ?_ (by with_reducible assumption)) | (refine .inl ?_; first | rfl | (simp; done) | (simp [Ar.blk]; done)) | (refine .inr ?_; first | omega | (simp; done) | (simp; omega) | exact Only.size (by with_reducible assumption) | (refine Nat.le_trans (Only.size (by with_reducible assumption)) ?_; simp; done)))) o2 (fun i _ h => h.elim .inl (fun h => .inr (.inr (.inr h))))
  have hgfw := HAr.out.gf_lt
  have d0 := o3.cell (b := w.heap.size) (o := 0) (v := .string v) (by simp [go_sem]) (by unfold Ar.blk; omega)
  have HA2 := Lib.hid hA2
  clear hA2 o2
  go_wp2
  go_returns
  exact ⟨rfl, by rw [HP.out]; exact HA2.out, by repeat' (first | (with_reducible exact Only.refl _ _) | (with_reducible assumption) | (refine Only.of_none ?_; with_reducible assumption) | (with_reducible refine Only.drewN ?_ _) | (with_reducible refine Only.drew ?_) | (with_reducible refine Only.alloc ?_ _) | (with_reducible refine Only.setCell ?_ ?_ _) | (with_reducible refine Only.then0 ?_ (by with_reducible assumption)) | (with_reducible refine Only.thenN ?_ (by with_reducible assumption) ?_) | (with_reducible refine Only.trans ?_ (by with_reducible assumption)) | (refine .inl ?_; first | rfl | (simp; done) | (simp [Ar.blk]; done)) | (refine .inr ?_; first | omega | (simp; done) | (simp; omega) | exact Only.size (by with_reducible assumption) | (refine Nat.le_trans (Only.size (by with_reducible assumption)) ?_; simp; done)))⟩

set_option maxHeartbeats 4000000 in
set_option maxRecDepth 100000 in
theorem s_take_ns (w : World) (b : Nat) (A : Ar) (n r : Nat) (v : ByteArray) (h : ArAt w b A) (hn : n < A.room) (hro : A.ro n = (r : Int)) (hr : r < A.nr) (hv : A.th n = .string v) (hc : 1 ≤ A.rn r ∧ A.rn r ≤ 65536) (hnf : A.nf < A.room) (ha : A.ah n = -1) (f : Nat) (hf : A.fa n = (f : Int)) (hfr : f < A.room) (hfn : f ≠ n) :
    Calls Try.prog 90 #[.pointer (some ⟨b, 0, none⟩), .int .i64 n] w fun e w' => e = .returned (.tuple #[.string v, .bool true]) ∧ ArAt w' b (A.take n (.string ByteArray.empty)) ∧ Only (A.blk b) w w' := by
  have hir : A.hasN n := ⟨⟨by omega, by omega⟩, by rw [Int.toNat_natCast, hro]; omega⟩
  have HI := Lib.hid (s_has w b A n h)
  have e : decide (A.hasN n) = true := by simp [hir]
  rw [e] at HI
  have hs := h.small
  have hp : A.take n (.string ByteArray.empty) = ((A.cut n r).wipe n (.string ByteArray.empty)).give n := by unfold Ar.take; rw [hro]; rfl
  obtain ⟨B, hB⟩ : ∃ B : Ar, B = (A.cut n r).wipe n (.string ByteArray.empty) := ⟨_, rfl⟩
  rw [← hB] at hp
  have hBnf : B.nf < B.room := by rw [hB]; exact hnf
  have hBgf : B.gf = A.gf := by rw [hB]; rfl
  have HG := Lib.hid (fun W (hW : ArAt W b B) => s_give W b B n hW hBnf)
  have HW := Lib.hid (fun W (hW : ArAt W b A) => (((((((hW.set_rf (i := r) (by omega) (A.fa n)).set_ah (i := f) (by simp only; omega) (A.ah n)).set_rn (i := r) (by simp only; omega) (A.rn r - 1)).set_th (i := n) (by simp only; omega) (.string ByteArray.empty)).set_ro (i := n) (by simp only; omega) (-1)).set_ah (i := n) (by simp only; omega) 0).set_fa (i := n) (by simp only; omega) 0))
  have hB' : B = { A with rf := upd A.rf r (A.fa n), fa := upd (A.fa) n 0, rl := A.rl, ah := upd (upd A.ah f (A.ah n)) n 0, rn := upd A.rn r (A.rn r - 1), th := upd A.th n (.string ByteArray.empty), ro := upd A.ro n (-1) } := by
    rw [hB]; unfold Ar.cut Ar.wipe; simp [ha, hf]
  simp only [ha, hf] at HW hB'
  have HBB := Lib.hid hB'
  have c0 := h.c0.cell
  have c1 := h.c1.cell
  have c2 := h.c2.cell
  have hbw := h.c0.lt
  have hglw := h.lr.1
  have hgrw := h.lr.2
  obtain ⟨t0, u0⟩ := h.l0 n (by omega)
  obtain ⟨t1, u1⟩ := h.l1 n (by omega)
  obtain ⟨t2, u2⟩ := h.l2 n (by omega)
  obtain ⟨t3, u3⟩ := h.l3 n (by omega)
  obtain ⟨q0, p0⟩ := h.r0 r (by omega)
  obtain ⟨q1, p1⟩ := h.r1 r (by omega)
  obtain ⟨q2, p2⟩ := h.r2 r (by omega)
  rw [hv] at t0
  rw [hro] at t1
  rw [ha] at t2
  rw [hf] at t3
  obtain ⟨t5, u5⟩ := h.l2 f (by omega)
  have ef : ((f : Int) == -1) = false := by simp
  have n1 := h.n1
  have n2 := h.n2
  have n4 := h.n4
  have n1' := Ne.symm n1
  have n2' := Ne.symm n2
  have n4' := Ne.symm n4
  have HP := Lib.hid hp
  have HGF := Lib.hid hBgf
  have HAr := Lib.hid h
  clear e h hir hB hB' hp hBgf hBnf hro ha hf hv
  generalize A.rn r = rn at *
  go_enter Try.func90, Try.ntmps90
  go_wp2_with ((go_at_call 133; refine HI.out.mono ?_; rintro e w1 ⟨rfl, rfl⟩))
  go_quiet (fail)
  go_wp2_with (fail)
  go_region
  go_wp2_with (fail)
  refine (HG.out _ (by rw [HBB.out]; (repeat (first | (with_reducible refine ArAt.drew ?_) | (with_reducible refine ArAt.drewN ?_ _) | (with_reducible refine ArAt.alloc ?_ _))); exact HW.out _ (by (repeat (first | (with_reducible refine ArAt.drew ?_) | (with_reducible refine ArAt.drewN ?_ _) | (with_reducible refine ArAt.alloc ?_ _))); exact HAr.out))).mono ?_
  rintro e w2 ⟨rfl, hA2, o2⟩
  rw [HGF.out] at o2
  have o3 : Only (A.blk b) (w.alloc (.cells #[.string v, .int .i64 r, .int .i64 (-1), .int .i64 f] 193)) w2 := Only.trans' (by repeat' (first | (with_reducible exact Only.refl _ _) | (with_reducible assumption) | (refine Only.of_none ?_; with_reducible assumption) | (with_reducible refine Only.drewN ?_ _) | (with_reducible refine Only.drew ?_) | (with_reducible refine Only.alloc ?_ _) | (with_reducible refine Only.setCell ?_ ?_ _) | (with_reducible refine Only.then0 ?_ (by with_reducible assumption)) | (with_reducible refine Only.thenN ?_ (by with_reducible assumption) ?_) | (with_reducible refine Only.trans ?_ (by with_reducible assumption)) | (refine .inl ?_; first | rfl | (simp; done) | (simp [Ar.blk]; done)) | (refine .inr ?_; first | omega | (simp; done) | (simp; omega) | exact Only.size (by with_reducible assumption) | (refine Nat.le_trans (Only.size (by with_reducible assumption)) ?_; simp; done)))) o2 (fun i _ h => h.elim .inl (fun h => .inr (.inr (.inr h))))
  have hgfw := HAr.out.gf_lt
  have d0 := o3.cell (b := w.heap.size) (o := 0) (v := .string v) (by simp [go_sem]) (by unfold Ar.blk; omega)
  have HA2 := Lib.hid hA2
  clear hA2 o2
  go_wp2
  go_returns
  exact ⟨rfl, by rw [HP.out]; exact HA2.out, by repeat' (first | (with_reducible exact Only.refl _ _) | (with_reducible assumption) | (refine Only.of_none ?_; with_reducible assumption) | (with_reducible refine Only.drewN ?_ _) | (with_reducible refine Only.drew ?_) | (with_reducible refine Only.alloc ?_ _) | (with_reducible refine Only.setCell ?_ ?_ _) | (with_reducible refine Only.then0 ?_ (by with_reducible assumption)) | (with_reducible refine Only.thenN ?_ (by with_reducible assumption) ?_) | (with_reducible refine Only.trans ?_ (by with_reducible assumption)) | (refine .inl ?_; first | rfl | (simp; done) | (simp [Ar.blk]; done)) | (refine .inr ?_; first | omega | (simp; done) | (simp; omega) | exact Only.size (by with_reducible assumption) | (refine Nat.le_trans (Only.size (by with_reducible assumption)) ?_; simp; done)))⟩

set_option maxHeartbeats 4000000 in
set_option maxRecDepth 100000 in
theorem s_take_sn (w : World) (b : Nat) (A : Ar) (n r : Nat) (v : ByteArray) (h : ArAt w b A) (hn : n < A.room) (hro : A.ro n = (r : Int)) (hr : r < A.nr) (hv : A.th n = .string v) (hc : 1 ≤ A.rn r ∧ A.rn r ≤ 65536) (hnf : A.nf < A.room) (a : Nat) (ha : A.ah n = (a : Int)) (har : a < A.room) (han : a ≠ n) (hf : A.fa n = -1) :
    Calls Try.prog 90 #[.pointer (some ⟨b, 0, none⟩), .int .i64 n] w fun e w' => e = .returned (.tuple #[.string v, .bool true]) ∧ ArAt w' b (A.take n (.string ByteArray.empty)) ∧ Only (A.blk b) w w' := by
  have hir : A.hasN n := ⟨⟨by omega, by omega⟩, by rw [Int.toNat_natCast, hro]; omega⟩
  have HI := Lib.hid (s_has w b A n h)
  have e : decide (A.hasN n) = true := by simp [hir]
  rw [e] at HI
  have hs := h.small
  have hp : A.take n (.string ByteArray.empty) = ((A.cut n r).wipe n (.string ByteArray.empty)).give n := by unfold Ar.take; rw [hro]; rfl
  obtain ⟨B, hB⟩ : ∃ B : Ar, B = (A.cut n r).wipe n (.string ByteArray.empty) := ⟨_, rfl⟩
  rw [← hB] at hp
  have hBnf : B.nf < B.room := by rw [hB]; exact hnf
  have hBgf : B.gf = A.gf := by rw [hB]; rfl
  have HG := Lib.hid (fun W (hW : ArAt W b B) => s_give W b B n hW hBnf)
  have HW := Lib.hid (fun W (hW : ArAt W b A) => (((((((hW.set_fa (i := a) (by omega) (A.fa n)).set_rl (i := r) (by simp only; omega) (A.ah n)).set_rn (i := r) (by simp only; omega) (A.rn r - 1)).set_th (i := n) (by simp only; omega) (.string ByteArray.empty)).set_ro (i := n) (by simp only; omega) (-1)).set_ah (i := n) (by simp only; omega) 0).set_fa (i := n) (by simp only; omega) 0))
  have hB' : B = { A with rf := A.rf, fa := upd (upd A.fa a (A.fa n)) n 0, rl := upd A.rl r (A.ah n), ah := upd (A.ah) n 0, rn := upd A.rn r (A.rn r - 1), th := upd A.th n (.string ByteArray.empty), ro := upd A.ro n (-1) } := by
    rw [hB]; unfold Ar.cut Ar.wipe; simp [ha, hf]
  simp only [ha, hf] at HW hB'
  have HBB := Lib.hid hB'
  have c0 := h.c0.cell
  have c1 := h.c1.cell
  have c2 := h.c2.cell
  have hbw := h.c0.lt
  have hglw := h.lr.1
  have hgrw := h.lr.2
  obtain ⟨t0, u0⟩ := h.l0 n (by omega)
  obtain ⟨t1, u1⟩ := h.l1 n (by omega)
  obtain ⟨t2, u2⟩ := h.l2 n (by omega)
  obtain ⟨t3, u3⟩ := h.l3 n (by omega)
  obtain ⟨q0, p0⟩ := h.r0 r (by omega)
  obtain ⟨q1, p1⟩ := h.r1 r (by omega)
  obtain ⟨q2, p2⟩ := h.r2 r (by omega)
  rw [hv] at t0
  rw [hro] at t1
  rw [ha] at t2
  rw [hf] at t3
  obtain ⟨t4, u4⟩ := h.l3 a (by omega)
  have ea : ((a : Int) == -1) = false := by simp
  have n1 := h.n1
  have n2 := h.n2
  have n4 := h.n4
  have n1' := Ne.symm n1
  have n2' := Ne.symm n2
  have n4' := Ne.symm n4
  have HP := Lib.hid hp
  have HGF := Lib.hid hBgf
  have HAr := Lib.hid h
  clear e h hir hB hB' hp hBgf hBnf hro ha hf hv
  generalize A.rn r = rn at *
  go_enter Try.func90, Try.ntmps90
  go_wp2_with ((go_at_call 133; refine HI.out.mono ?_; rintro e w1 ⟨rfl, rfl⟩))
  go_quiet (fail)
  go_wp2_with (fail)
  go_region
  go_wp2_with (fail)
  refine (HG.out _ (by rw [HBB.out]; (repeat (first | (with_reducible refine ArAt.drew ?_) | (with_reducible refine ArAt.drewN ?_ _) | (with_reducible refine ArAt.alloc ?_ _))); exact HW.out _ (by (repeat (first | (with_reducible refine ArAt.drew ?_) | (with_reducible refine ArAt.drewN ?_ _) | (with_reducible refine ArAt.alloc ?_ _))); exact HAr.out))).mono ?_
  rintro e w2 ⟨rfl, hA2, o2⟩
  rw [HGF.out] at o2
  have o3 : Only (A.blk b) (w.alloc (.cells #[.string v, .int .i64 r, .int .i64 a, .int .i64 (-1)] 193)) w2 := Only.trans' (by repeat' (first | (with_reducible exact Only.refl _ _) | (with_reducible assumption) | (refine Only.of_none ?_; with_reducible assumption) | (with_reducible refine Only.drewN ?_ _) | (with_reducible refine Only.drew ?_) | (with_reducible refine Only.alloc ?_ _) | (with_reducible refine Only.setCell ?_ ?_ _) | (with_reducible refine Only.then0 ?_ (by with_reducible assumption)) | (with_reducible refine Only.thenN ?_ (by with_reducible assumption) ?_) | (with_reducible refine Only.trans ?_ (by with_reducible assumption)) | (refine .inl ?_; first | rfl | (simp; done) | (simp [Ar.blk]; done)) | (refine .inr ?_; first | omega | (simp; done) | (simp; omega) | exact Only.size (by with_reducible assumption) | (refine Nat.le_trans (Only.size (by with_reducible assumption)) ?_; simp; done)))) o2 (fun i _ h => h.elim .inl (fun h => .inr (.inr (.inr h))))
  have hgfw := HAr.out.gf_lt
  have d0 := o3.cell (b := w.heap.size) (o := 0) (v := .string v) (by simp [go_sem]) (by unfold Ar.blk; omega)
  have HA2 := Lib.hid hA2
  clear hA2 o2
  go_wp2
  go_returns
  exact ⟨rfl, by rw [HP.out]; exact HA2.out, by repeat' (first | (with_reducible exact Only.refl _ _) | (with_reducible assumption) | (refine Only.of_none ?_; with_reducible assumption) | (with_reducible refine Only.drewN ?_ _) | (with_reducible refine Only.drew ?_) | (with_reducible refine Only.alloc ?_ _) | (with_reducible refine Only.setCell ?_ ?_ _) | (with_reducible refine Only.then0 ?_ (by with_reducible assumption)) | (with_reducible refine Only.thenN ?_ (by with_reducible assumption) ?_) | (with_reducible refine Only.trans ?_ (by with_reducible assumption)) | (refine .inl ?_; first | rfl | (simp; done) | (simp [Ar.blk]; done)) | (refine .inr ?_; first | omega | (simp; done) | (simp; omega) | exact Only.size (by with_reducible assumption) | (refine Nat.le_trans (Only.size (by with_reducible assumption)) ?_; simp; done)))⟩

set_option maxHeartbeats 4000000 in
set_option maxRecDepth 100000 in
theorem s_take_ss (w : World) (b : Nat) (A : Ar) (n r : Nat) (v : ByteArray) (h : ArAt w b A) (hn : n < A.room) (hro : A.ro n = (r : Int)) (hr : r < A.nr) (hv : A.th n = .string v) (hc : 1 ≤ A.rn r ∧ A.rn r ≤ 65536) (hnf : A.nf < A.room) (a : Nat) (ha : A.ah n = (a : Int)) (har : a < A.room) (han : a ≠ n) (f : Nat) (hf : A.fa n = (f : Int)) (hfr : f < A.room) (hfn : f ≠ n) (haf : a ≠ f) :
    Calls Try.prog 90 #[.pointer (some ⟨b, 0, none⟩), .int .i64 n] w fun e w' => e = .returned (.tuple #[.string v, .bool true]) ∧ ArAt w' b (A.take n (.string ByteArray.empty)) ∧ Only (A.blk b) w w' := by
  have hir : A.hasN n := ⟨⟨by omega, by omega⟩, by rw [Int.toNat_natCast, hro]; omega⟩
  have HI := Lib.hid (s_has w b A n h)
  have e : decide (A.hasN n) = true := by simp [hir]
  rw [e] at HI
  have hs := h.small
  have hp : A.take n (.string ByteArray.empty) = ((A.cut n r).wipe n (.string ByteArray.empty)).give n := by unfold Ar.take; rw [hro]; rfl
  obtain ⟨B, hB⟩ : ∃ B : Ar, B = (A.cut n r).wipe n (.string ByteArray.empty) := ⟨_, rfl⟩
  rw [← hB] at hp
  have hBnf : B.nf < B.room := by rw [hB]; exact hnf
  have hBgf : B.gf = A.gf := by rw [hB]; rfl
  have HG := Lib.hid (fun W (hW : ArAt W b B) => s_give W b B n hW hBnf)
  have HW := Lib.hid (fun W (hW : ArAt W b A) => (((((((hW.set_fa (i := a) (by omega) (A.fa n)).set_ah (i := f) (by simp only; omega) (A.ah n)).set_rn (i := r) (by simp only; omega) (A.rn r - 1)).set_th (i := n) (by simp only; omega) (.string ByteArray.empty)).set_ro (i := n) (by simp only; omega) (-1)).set_ah (i := n) (by simp only; omega) 0).set_fa (i := n) (by simp only; omega) 0))
  have hB' : B = { A with rf := A.rf, fa := upd (upd A.fa a (A.fa n)) n 0, rl := A.rl, ah := upd (upd A.ah f (A.ah n)) n 0, rn := upd A.rn r (A.rn r - 1), th := upd A.th n (.string ByteArray.empty), ro := upd A.ro n (-1) } := by
    rw [hB]; unfold Ar.cut Ar.wipe; simp [ha, hf]
  simp only [ha, hf] at HW hB'
  have HBB := Lib.hid hB'
  have c0 := h.c0.cell
  have c1 := h.c1.cell
  have c2 := h.c2.cell
  have hbw := h.c0.lt
  have hglw := h.lr.1
  have hgrw := h.lr.2
  obtain ⟨t0, u0⟩ := h.l0 n (by omega)
  obtain ⟨t1, u1⟩ := h.l1 n (by omega)
  obtain ⟨t2, u2⟩ := h.l2 n (by omega)
  obtain ⟨t3, u3⟩ := h.l3 n (by omega)
  obtain ⟨q0, p0⟩ := h.r0 r (by omega)
  obtain ⟨q1, p1⟩ := h.r1 r (by omega)
  obtain ⟨q2, p2⟩ := h.r2 r (by omega)
  rw [hv] at t0
  rw [hro] at t1
  rw [ha] at t2
  rw [hf] at t3
  obtain ⟨t4, u4⟩ := h.l3 a (by omega)
  have ea : ((a : Int) == -1) = false := by simp
  obtain ⟨t5, u5⟩ := h.l2 f (by omega)
  have ef : ((f : Int) == -1) = false := by simp
  have n1 := h.n1
  have n2 := h.n2
  have n4 := h.n4
  have n1' := Ne.symm n1
  have n2' := Ne.symm n2
  have n4' := Ne.symm n4
  have HP := Lib.hid hp
  have HGF := Lib.hid hBgf
  have HAr := Lib.hid h
  clear e h hir hB hB' hp hBgf hBnf hro ha hf hv
  generalize A.rn r = rn at *
  go_enter Try.func90, Try.ntmps90
  go_wp2_with ((go_at_call 133; refine HI.out.mono ?_; rintro e w1 ⟨rfl, rfl⟩))
  go_quiet (fail)
  go_wp2_with (fail)
  go_region
  go_wp2_with (fail)
  go_region
  go_wp2_with (fail)
  refine (HG.out _ (by rw [HBB.out]; (repeat (first | (with_reducible refine ArAt.drew ?_) | (with_reducible refine ArAt.drewN ?_ _) | (with_reducible refine ArAt.alloc ?_ _))); exact HW.out _ (by (repeat (first | (with_reducible refine ArAt.drew ?_) | (with_reducible refine ArAt.drewN ?_ _) | (with_reducible refine ArAt.alloc ?_ _))); exact HAr.out))).mono ?_
  rintro e w2 ⟨rfl, hA2, o2⟩
  rw [HGF.out] at o2
  have o3 : Only (A.blk b) (w.alloc (.cells #[.string v, .int .i64 r, .int .i64 a, .int .i64 f] 193)) w2 := Only.trans' (by repeat' (first | (with_reducible exact Only.refl _ _) | (with_reducible assumption) | (refine Only.of_none ?_; with_reducible assumption) | (with_reducible refine Only.drewN ?_ _) | (with_reducible refine Only.drew ?_) | (with_reducible refine Only.alloc ?_ _) | (with_reducible refine Only.setCell ?_ ?_ _) | (with_reducible refine Only.then0 ?_ (by with_reducible assumption)) | (with_reducible refine Only.thenN ?_ (by with_reducible assumption) ?_) | (with_reducible refine Only.trans ?_ (by with_reducible assumption)) | (refine .inl ?_; first | rfl | (simp; done) | (simp [Ar.blk]; done)) | (refine .inr ?_; first | omega | (simp; done) | (simp; omega) | exact Only.size (by with_reducible assumption) | (refine Nat.le_trans (Only.size (by with_reducible assumption)) ?_; simp; done)))) o2 (fun i _ h => h.elim .inl (fun h => .inr (.inr (.inr h))))
  have hgfw := HAr.out.gf_lt
  have d0 := o3.cell (b := w.heap.size) (o := 0) (v := .string v) (by simp [go_sem]) (by unfold Ar.blk; omega)
  have HA2 := Lib.hid hA2
  clear hA2 o2
  go_wp2
  go_returns
  exact ⟨rfl, by rw [HP.out]; exact HA2.out, by repeat' (first | (with_reducible exact Only.refl _ _) | (with_reducible assumption) | (refine Only.of_none ?_; with_reducible assumption) | (with_reducible refine Only.drewN ?_ _) | (with_reducible refine Only.drew ?_) | (with_reducible refine Only.alloc ?_ _) | (with_reducible refine Only.setCell ?_ ?_ _) | (with_reducible refine Only.then0 ?_ (by with_reducible assumption)) | (with_reducible refine Only.thenN ?_ (by with_reducible assumption) ?_) | (with_reducible refine Only.trans ?_ (by with_reducible assumption)) | (refine .inl ?_; first | rfl | (simp; done) | (simp [Ar.blk]; done)) | (refine .inr ?_; first | omega | (simp; done) | (simp; omega) | exact Only.size (by with_reducible assumption) | (refine Nat.le_trans (Only.size (by with_reducible assumption)) ?_; simp; done)))⟩
end Str
end Go.Proofs.Ytiiflgihjnlmcaa
