/- Slots of orders: Set. Conditions: an arena as New lays it, at most 65536 rows and numbers. -/
import Derived.Test.YtkglplngnjgnhaaOrd9
import Derived.StillTailTactics
import Derived.Deep.RegionLaw
namespace Go.Proofs.Ytkglplngnjgnhaa
set_option linter.unusedVariables false
set_option linter.unusedSimpArgs false
namespace Od
open Go.RowKit
set_option maxHeartbeats 1000000 in
theorem s_set_no (w : World) (b : Nat) (A : Ar) (n : Int) (v0 v1 v2 v3 v4 : Int) (h : ArAt w b A) (hr : ¬ A.hasN n) :
    Calls Try.prog 91 #[.pointer (some ⟨b, 0, none⟩), .int .i64 n, .agg #[.int .i64 v0, .int .i64 v1, .int .u8 v2, .int .i64 v3, .int .i64 v4]] w fun e w' => e = .returned (.bool false) ∧ Only (fun _ => False) w w' := by
  have h0 := h.alloc (.cells #[.int .i64 v0, .int .i64 v1, .int .u8 v2, .int .i64 v3, .int .i64 v4] 54)
  have HI := Lib.hid (s_has _ b A n h0)
  have e : decide (A.hasN n) = false := by simp [hr]
  rw [e] at HI
  clear e h h0 hr
  go_enter Try.func91, Try.ntmps91
  go_wp2_with ((go_at_call 101; refine HI.out.mono ?_; rintro e w1 ⟨rfl, rfl⟩))
  go_returns
  exact ⟨rfl, by repeat' (first | (with_reducible exact Only.refl _ _) | (with_reducible assumption) | (refine Only.of_none ?_; with_reducible assumption) | (with_reducible refine Only.drewN ?_ _) | (with_reducible refine Only.drew ?_) | (with_reducible refine Only.alloc ?_ _) | (with_reducible refine Only.setCell ?_ ?_ _) | (with_reducible refine Only.then0 ?_ (by with_reducible assumption)) | (with_reducible refine Only.thenN ?_ (by with_reducible assumption) ?_) | (with_reducible refine Only.trans ?_ (by with_reducible assumption)) | (refine .inl ?_; first | rfl | (simp; done) | (simp [Ar.blk]; done)) | (refine .inr ?_; first | omega | (simp; done) | (simp; omega) | exact Only.size (by with_reducible assumption) | (refine Nat.le_trans (Only.size (by with_reducible assumption)) ?_; simp; done)))⟩
set_option maxHeartbeats 2000000 in
set_option maxRecDepth 100000 in
theorem s_set (w : World) (b : Nat) (A : Ar) (n : Nat) (v0 v1 v2 v3 v4 : Int) (h : ArAt w b A) (hr : A.hasN n) :
    Calls Try.prog 91 #[.pointer (some ⟨b, 0, none⟩), .int .i64 n, .agg #[.int .i64 v0, .int .i64 v1, .int .u8 v2, .int .i64 v3, .int .i64 v4]] w fun e w' => e = .returned (.bool true) ∧ ArAt w' b { A with th := upd A.th n (.agg #[.int .i64 v0, .int .i64 v1, .int .u8 v2, .int .i64 v3, .int .i64 v4]) } ∧ Only (A.blk b) w w' := by
  have h0 := h.alloc (.cells #[.int .i64 v0, .int .i64 v1, .int .u8 v2, .int .i64 v3, .int .i64 v4] 54)
  have HI := Lib.hid (s_has _ b A n h0)
  have c0 := h0.c0.cell
  have hlt := h0.c0.lt
  have hglw := h0.lr.1
  have e : decide (A.hasN n) = true := by simp [hr]
  rw [e] at HI
  have h2 : n < A.room := by have := hr.1.2; omega
  have ii : (0 : Int) ≤ (n : Int) ∧ (n : Int) < (A.room : Int) := by omega
  have hsz : (A.th n).cells.size = 5 := h.tc n h2
  obtain ⟨q0, t00, u00⟩ : ∃ u, Cell (w.alloc (.cells #[.int .i64 v0, .int .i64 v1, .int .u8 v2, .int .i64 v3, .int .i64 v4] 54)) A.gl (n * 8 + 0) u := ⟨_, h0.l0 n h2 0 _ (Array.getElem?_eq_getElem (by omega))⟩
  obtain ⟨q1, t01, u01⟩ : ∃ u, Cell (w.alloc (.cells #[.int .i64 v0, .int .i64 v1, .int .u8 v2, .int .i64 v3, .int .i64 v4] 54)) A.gl (n * 8 + 1) u := ⟨_, h0.l0 n h2 1 _ (Array.getElem?_eq_getElem (by omega))⟩
  obtain ⟨q2, t02, u02⟩ : ∃ u, Cell (w.alloc (.cells #[.int .i64 v0, .int .i64 v1, .int .u8 v2, .int .i64 v3, .int .i64 v4] 54)) A.gl (n * 8 + 2) u := ⟨_, h0.l0 n h2 2 _ (Array.getElem?_eq_getElem (by omega))⟩
  obtain ⟨q3, t03, u03⟩ : ∃ u, Cell (w.alloc (.cells #[.int .i64 v0, .int .i64 v1, .int .u8 v2, .int .i64 v3, .int .i64 v4] 54)) A.gl (n * 8 + 3) u := ⟨_, h0.l0 n h2 3 _ (Array.getElem?_eq_getElem (by omega))⟩
  obtain ⟨q4, t04, u04⟩ : ∃ u, Cell (w.alloc (.cells #[.int .i64 v0, .int .i64 v1, .int .u8 v2, .int .i64 v3, .int .i64 v4] 54)) A.gl (n * 8 + 4) u := ⟨_, h0.l0 n h2 4 _ (Array.getElem?_eq_getElem (by omega))⟩
  have zc0 := (Cell.new (w := w) (cs := #[.int .i64 v0, .int .i64 v1, .int .u8 v2, .int .i64 v3, .int .i64 v4]) (t := 54) (o := 0) rfl).cell
  have zc1 := (Cell.new (w := w) (cs := #[.int .i64 v0, .int .i64 v1, .int .u8 v2, .int .i64 v3, .int .i64 v4]) (t := 54) (o := 1) rfl).cell
  have zc2 := (Cell.new (w := w) (cs := #[.int .i64 v0, .int .i64 v1, .int .u8 v2, .int .i64 v3, .int .i64 v4]) (t := 54) (o := 2) rfl).cell
  have zc3 := (Cell.new (w := w) (cs := #[.int .i64 v0, .int .i64 v1, .int .u8 v2, .int .i64 v3, .int .i64 v4]) (t := 54) (o := 3) rfl).cell
  have zc4 := (Cell.new (w := w) (cs := #[.int .i64 v0, .int .i64 v1, .int .u8 v2, .int .i64 v3, .int .i64 v4]) (t := 54) (o := 4) rfl).cell
  rw [Nat.add_zero] at t00 u00
  have HAr := Lib.hid h
  have HW := Lib.hid (fun W (hW : ArAt W b A) => hW.set_th (i := n) h2 (.int .i64 v0) (.int .i64 v1) (.int .u8 v2) (.int .i64 v3) (.int .i64 v4))
  simp only [put5] at HW
  clear e h h0 hr hsz
  go_enter Try.func91, Try.ntmps91
  go_wp2_with ((go_at_call 101; refine HI.out.mono ?_; rintro e w1 ⟨rfl, rfl⟩))
  have O0 := Lib.hid ((Only.refl (A.blk b) w).alloc (.cells #[.int .i64 v0, .int .i64 v1, .int .u8 v2, .int .i64 v3, .int .i64 v4] 54))
  have HA0 := Lib.hid (HAr.out.alloc (.cells #[.int .i64 v0, .int .i64 v1, .int .u8 v2, .int .i64 v3, .int .i64 v4] 54))
  clear HAr
  generalize w.alloc (.cells #[.int .i64 v0, .int .i64 v1, .int .u8 v2, .int .i64 v3, .int .i64 v4] 54) = W0 at *
  have O1 := O0.out
  go_still_tail 8, (by kernel_rfl)
  change wpList _ _ _ _ _ W0.drew
  go_wp2_with fail
  go_returns
  exact ⟨rfl, (HW.out _ HA0.out).drew, by (repeat' (first | (with_reducible exact Only.refl _ _) | (with_reducible assumption) | (refine Only.of_none ?_; with_reducible assumption) | (with_reducible refine Only.drewN ?_ _) | (with_reducible refine Only.drew ?_) | (with_reducible refine Only.alloc ?_ _) | (with_reducible refine Only.setCell ?_ ?_ _) | (with_reducible refine Only.then0 ?_ (by with_reducible assumption)) | (with_reducible refine Only.thenN ?_ (by with_reducible assumption) ?_) | (with_reducible refine Only.trans ?_ (by with_reducible assumption)) | (refine .inl ?_; first | rfl | (simp; done) | (simp [Ar.blk]; done)) | (refine .inr ?_; first | omega | (simp; done) | (simp; omega) | exact Only.size (by with_reducible assumption) | (refine Nat.le_trans (Only.size (by with_reducible assumption)) ?_; simp; done)))); all_goals exact O1⟩
end Od
end Go.Proofs.Ytkglplngnjgnhaa
