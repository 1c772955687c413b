/- Slots: Get, Set, Row, Len, Free, walked. Conditions: an arena as New lays it. -/
import Derived.Test.YtkglplngnjgnhaaOrdH
namespace Go.Proofs.Ytkglplngnjgnhaa
set_option linter.unusedVariables false
set_option linter.unusedSimpArgs false
namespace Od
open Go.RowKit

set_option maxHeartbeats 1000000 in
theorem s_len (w : World) (b : Nat) (A : Ar) (r : Int) (h : ArAt w b A) :
    Calls Try.prog 62 #[.pointer (some ⟨b, 0, none⟩), .int .i64 r] w fun e w' => e = .returned (.int .i64 (if A.isRow r then A.rn r.toNat else 0)) ∧ w = w' := by
  have HI := Lib.hid (s_is w b A r h)
  have c1 := h.c1.cell
  have hlt := h.c1.lt
  by_cases hr : A.isRow r
  · rw [if_pos hr]
    have e : decide (A.isRow r) = true := by simp [hr]
    rw [e] at HI
    have h1 := hr.1
    have h2 := hr.2
    have c := (h.r2 r.toNat (by omega)).cell
    generalize A.rn r.toNat = x at *
    clear e h hr
    go_enter Try.func62, Try.ntmps62
    go_wp2_with ((go_at_call 99; refine HI.out.mono ?_; rintro e w1 ⟨rfl, rfl⟩))
    go_ret
    exact ⟨rfl, rfl⟩
  · rw [if_neg hr]
    have e : decide (A.isRow r) = false := by simp [hr]
    rw [e] at HI
    clear e h hr
    go_enter Try.func62, Try.ntmps62
    go_wp2_with ((go_at_call 99; refine HI.out.mono ?_; rintro e w1 ⟨rfl, rfl⟩))
    go_ret
    exact ⟨rfl, rfl⟩

set_option maxHeartbeats 1000000 in
theorem s_row (w : World) (b : Nat) (A : Ar) (n : Int) (h : ArAt w b A) :
    Calls Try.prog 60 #[.pointer (some ⟨b, 0, none⟩), .int .i64 n] w fun e w' => e = .returned (.int .i64 (if A.hasN n then A.ro n.toNat else -1)) ∧ w = w' := by
  have HI := Lib.hid (s_has w b A n h)
  have c0 := h.c0.cell
  have hlt := h.c0.lt
  by_cases hr : A.hasN n
  · rw [if_pos hr]
    have e : decide (A.hasN n) = true := by simp [hr]
    rw [e] at HI
    have h1 := hr.1.1
    have h2 := hr.1.2
    have c := (h.l1 n.toNat (by omega)).cell
    generalize A.ro n.toNat = x at *
    clear e h hr
    go_enter Try.func60, Try.ntmps60
    go_wp2_with ((go_at_call 101; refine HI.out.mono ?_; rintro e w1 ⟨rfl, rfl⟩))
    go_ret
    exact ⟨rfl, rfl⟩
  · rw [if_neg hr]
    have e : decide (A.hasN n) = false := by simp [hr]
    rw [e] at HI
    clear e h hr
    go_enter Try.func60, Try.ntmps60
    go_wp2_with ((go_at_call 101; refine HI.out.mono ?_; rintro e w1 ⟨rfl, rfl⟩))
    go_ret
    exact ⟨rfl, rfl⟩
set_option maxHeartbeats 2000000 in
theorem s_get (w : World) (b : Nat) (A : Ar) (n : Int) (v0 v1 v2 v3 v4 : Int) (h : ArAt w b A) (hr : A.hasN n) (hv : A.th n.toNat = .agg #[.int .i64 v0, .int .i64 v1, .int .u8 v2, .int .i64 v3, .int .i64 v4]) :
    Calls Try.prog 79 #[.pointer (some ⟨b, 0, none⟩), .int .i64 n] w fun e w' => e = .returned (.tuple #[.agg #[.int .i64 v0, .int .i64 v1, .int .u8 v2, .int .i64 v3, .int .i64 v4], .bool true]) ∧ Only (fun _ => False) w w' := by
  have h0 := h.alloc (.cells #[.int .i64 0, .int .i64 0, .int .u8 0, .int .i64 0, .int .i64 0] 54)
  have HI := Lib.hid (s_has _ b A n h0)
  have e : decide (A.hasN n) = true := by simp [hr]
  rw [e] at HI
  have c0 := h0.c0.cell
  have hlt := h0.c0.lt
  have h1 := hr.1.1
  have h2 := hr.1.2
  have hgl := h0.lr.1
  have c10 := (h0.l0 n.toNat (by omega) 0 (.int .i64 v0) (by rw [hv]; rfl)).cell
  have c11 := (h0.l0 n.toNat (by omega) 1 (.int .i64 v1) (by rw [hv]; rfl)).cell
  have c12 := (h0.l0 n.toNat (by omega) 2 (.int .u8 v2) (by rw [hv]; rfl)).cell
  have c13 := (h0.l0 n.toNat (by omega) 3 (.int .i64 v3) (by rw [hv]; rfl)).cell
  have c14 := (h0.l0 n.toNat (by omega) 4 (.int .i64 v4) (by rw [hv]; rfl)).cell
  rw [Nat.add_zero] at c10
  have zb0 := Cell.new (w := w) (cs := #[.int .i64 0, .int .i64 0, .int .u8 0, .int .i64 0, .int .i64 0]) (t := 54) (o := 0) rfl
  have zc0 := zb0.cell
  have zf0 := zb0.free
  have zb1 := Cell.new (w := w) (cs := #[.int .i64 0, .int .i64 0, .int .u8 0, .int .i64 0, .int .i64 0]) (t := 54) (o := 1) rfl
  have zc1 := zb1.cell
  have zf1 := zb1.free
  have zb2 := Cell.new (w := w) (cs := #[.int .i64 0, .int .i64 0, .int .u8 0, .int .i64 0, .int .i64 0]) (t := 54) (o := 2) rfl
  have zc2 := zb2.cell
  have zf2 := zb2.free
  have zb3 := Cell.new (w := w) (cs := #[.int .i64 0, .int .i64 0, .int .u8 0, .int .i64 0, .int .i64 0]) (t := 54) (o := 3) rfl
  have zc3 := zb3.cell
  have zf3 := zb3.free
  have zb4 := Cell.new (w := w) (cs := #[.int .i64 0, .int .i64 0, .int .u8 0, .int .i64 0, .int .i64 0]) (t := 54) (o := 4) rfl
  have zc4 := zb4.cell
  have zf4 := zb4.free
  have rr0 : ((((((w.alloc (.cells #[.int .i64 0, .int .i64 0, .int .u8 0, .int .i64 0, .int .i64 0] 54)).setCell ⟨w.heap.size, 0, none⟩ (.int .i64 v0)).setCell ⟨w.heap.size, 1, none⟩ (.int .i64 v1)).setCell ⟨w.heap.size, 2, none⟩ (.int .u8 v2)).setCell ⟨w.heap.size, 3, none⟩ (.int .i64 v3)).setCell ⟨w.heap.size, 4, none⟩ (.int .i64 v4)).cell? ⟨w.heap.size, 0, none⟩ = some (.int .i64 v0) := (show Cell ((((((w.alloc (.cells #[.int .i64 0, .int .i64 0, .int .u8 0, .int .i64 0, .int .i64 0] 54)).setCell ⟨w.heap.size, 0, none⟩ (.int .i64 v0)).setCell ⟨w.heap.size, 1, none⟩ (.int .i64 v1)).setCell ⟨w.heap.size, 2, none⟩ (.int .u8 v2)).setCell ⟨w.heap.size, 3, none⟩ (.int .i64 v3)).setCell ⟨w.heap.size, 4, none⟩ (.int .i64 v4)) w.heap.size 0 (.int .i64 v0) from (((((zb0.set _).far (off_ne (by decide)) _).far (off_ne (by decide)) _).far (off_ne (by decide)) _).far (off_ne (by decide)) _)).cell
  have rr1 : ((((((w.alloc (.cells #[.int .i64 0, .int .i64 0, .int .u8 0, .int .i64 0, .int .i64 0] 54)).setCell ⟨w.heap.size, 0, none⟩ (.int .i64 v0)).setCell ⟨w.heap.size, 1, none⟩ (.int .i64 v1)).setCell ⟨w.heap.size, 2, none⟩ (.int .u8 v2)).setCell ⟨w.heap.size, 3, none⟩ (.int .i64 v3)).setCell ⟨w.heap.size, 4, none⟩ (.int .i64 v4)).cell? ⟨w.heap.size, 1, none⟩ = some (.int .i64 v1) := (show Cell ((((((w.alloc (.cells #[.int .i64 0, .int .i64 0, .int .u8 0, .int .i64 0, .int .i64 0] 54)).setCell ⟨w.heap.size, 0, none⟩ (.int .i64 v0)).setCell ⟨w.heap.size, 1, none⟩ (.int .i64 v1)).setCell ⟨w.heap.size, 2, none⟩ (.int .u8 v2)).setCell ⟨w.heap.size, 3, none⟩ (.int .i64 v3)).setCell ⟨w.heap.size, 4, none⟩ (.int .i64 v4)) w.heap.size 1 (.int .i64 v1) from (((((zb1.far (off_ne (by decide)) _).set _).far (off_ne (by decide)) _).far (off_ne (by decide)) _).far (off_ne (by decide)) _)).cell
  have rr2 : ((((((w.alloc (.cells #[.int .i64 0, .int .i64 0, .int .u8 0, .int .i64 0, .int .i64 0] 54)).setCell ⟨w.heap.size, 0, none⟩ (.int .i64 v0)).setCell ⟨w.heap.size, 1, none⟩ (.int .i64 v1)).setCell ⟨w.heap.size, 2, none⟩ (.int .u8 v2)).setCell ⟨w.heap.size, 3, none⟩ (.int .i64 v3)).setCell ⟨w.heap.size, 4, none⟩ (.int .i64 v4)).cell? ⟨w.heap.size, 2, none⟩ = some (.int .u8 v2) := (show Cell ((((((w.alloc (.cells #[.int .i64 0, .int .i64 0, .int .u8 0, .int .i64 0, .int .i64 0] 54)).setCell ⟨w.heap.size, 0, none⟩ (.int .i64 v0)).setCell ⟨w.heap.size, 1, none⟩ (.int .i64 v1)).setCell ⟨w.heap.size, 2, none⟩ (.int .u8 v2)).setCell ⟨w.heap.size, 3, none⟩ (.int .i64 v3)).setCell ⟨w.heap.size, 4, none⟩ (.int .i64 v4)) w.heap.size 2 (.int .u8 v2) from (((((zb2.far (off_ne (by decide)) _).far (off_ne (by decide)) _).set _).far (off_ne (by decide)) _).far (off_ne (by decide)) _)).cell
  have rr3 : ((((((w.alloc (.cells #[.int .i64 0, .int .i64 0, .int .u8 0, .int .i64 0, .int .i64 0] 54)).setCell ⟨w.heap.size, 0, none⟩ (.int .i64 v0)).setCell ⟨w.heap.size, 1, none⟩ (.int .i64 v1)).setCell ⟨w.heap.size, 2, none⟩ (.int .u8 v2)).setCell ⟨w.heap.size, 3, none⟩ (.int .i64 v3)).setCell ⟨w.heap.size, 4, none⟩ (.int .i64 v4)).cell? ⟨w.heap.size, 3, none⟩ = some (.int .i64 v3) := (show Cell ((((((w.alloc (.cells #[.int .i64 0, .int .i64 0, .int .u8 0, .int .i64 0, .int .i64 0] 54)).setCell ⟨w.heap.size, 0, none⟩ (.int .i64 v0)).setCell ⟨w.heap.size, 1, none⟩ (.int .i64 v1)).setCell ⟨w.heap.size, 2, none⟩ (.int .u8 v2)).setCell ⟨w.heap.size, 3, none⟩ (.int .i64 v3)).setCell ⟨w.heap.size, 4, none⟩ (.int .i64 v4)) w.heap.size 3 (.int .i64 v3) from (((((zb3.far (off_ne (by decide)) _).far (off_ne (by decide)) _).far (off_ne (by decide)) _).set _).far (off_ne (by decide)) _)).cell
  have rr4 : ((((((w.alloc (.cells #[.int .i64 0, .int .i64 0, .int .u8 0, .int .i64 0, .int .i64 0] 54)).setCell ⟨w.heap.size, 0, none⟩ (.int .i64 v0)).setCell ⟨w.heap.size, 1, none⟩ (.int .i64 v1)).setCell ⟨w.heap.size, 2, none⟩ (.int .u8 v2)).setCell ⟨w.heap.size, 3, none⟩ (.int .i64 v3)).setCell ⟨w.heap.size, 4, none⟩ (.int .i64 v4)).cell? ⟨w.heap.size, 4, none⟩ = some (.int .i64 v4) := (show Cell ((((((w.alloc (.cells #[.int .i64 0, .int .i64 0, .int .u8 0, .int .i64 0, .int .i64 0] 54)).setCell ⟨w.heap.size, 0, none⟩ (.int .i64 v0)).setCell ⟨w.heap.size, 1, none⟩ (.int .i64 v1)).setCell ⟨w.heap.size, 2, none⟩ (.int .u8 v2)).setCell ⟨w.heap.size, 3, none⟩ (.int .i64 v3)).setCell ⟨w.heap.size, 4, none⟩ (.int .i64 v4)) w.heap.size 4 (.int .i64 v4) from (((((zb4.far (off_ne (by decide)) _).far (off_ne (by decide)) _).far (off_ne (by decide)) _).far (off_ne (by decide)) _).set _)).cell
  clear e h h0 hr hv zb0 zb1 zb2 zb3 zb4
  go_enter Try.func79, Try.ntmps79
  go_wp2_with ((go_at_call 101; refine HI.out.mono ?_; rintro e w1 ⟨rfl, rfl⟩))
  refine bodyPost_ret (by simp [results, Try.results79, go_sem, rr0, rr1, rr2, rr3, rr4]; try rfl) rfl ?_
  exact ⟨rfl, by repeat' (first | (with_reducible exact Only.refl _ _) | (with_reducible assumption) | (refine Only.of_none ?_; with_reducible assumption) | (with_reducible refine Only.drewN ?_ _) | (with_reducible refine Only.drew ?_) | (with_reducible refine Only.alloc ?_ _) | (with_reducible refine Only.setCell ?_ ?_ _) | (with_reducible refine Only.then0 ?_ (by with_reducible assumption)) | (with_reducible refine Only.thenN ?_ (by with_reducible assumption) ?_) | (with_reducible refine Only.trans ?_ (by with_reducible assumption)) | (refine .inl ?_; first | rfl | (simp; done) | (simp [Ar.blk]; done)) | (refine .inr ?_; first | omega | (simp; done) | (simp; omega) | exact Only.size (by with_reducible assumption) | (refine Nat.le_trans (Only.size (by with_reducible assumption)) ?_; simp; done)))⟩
set_option maxHeartbeats 2000000 in
theorem s_get_no (w : World) (b : Nat) (A : Ar) (n : Int) (h : ArAt w b A) (hr : ¬ A.hasN n) :
    Calls Try.prog 79 #[.pointer (some ⟨b, 0, none⟩), .int .i64 n] w fun e w' => e = .returned (.tuple #[.agg #[.int .i64 0, .int .i64 0, .int .u8 0, .int .i64 0, .int .i64 0], .bool false]) ∧ Only (fun _ => False) w w' := by
  have h0 := h.alloc (.cells #[.int .i64 0, .int .i64 0, .int .u8 0, .int .i64 0, .int .i64 0] 54)
  have HI := Lib.hid (s_has _ b A n h0)
  have e : decide (A.hasN n) = false := by simp [hr]
  rw [e] at HI
  have zb0 := Cell.new (w := w) (cs := #[.int .i64 0, .int .i64 0, .int .u8 0, .int .i64 0, .int .i64 0]) (t := 54) (o := 0) rfl
  have zc0 := zb0.cell
  have zf0 := zb0.free
  have zb1 := Cell.new (w := w) (cs := #[.int .i64 0, .int .i64 0, .int .u8 0, .int .i64 0, .int .i64 0]) (t := 54) (o := 1) rfl
  have zc1 := zb1.cell
  have zf1 := zb1.free
  have zb2 := Cell.new (w := w) (cs := #[.int .i64 0, .int .i64 0, .int .u8 0, .int .i64 0, .int .i64 0]) (t := 54) (o := 2) rfl
  have zc2 := zb2.cell
  have zf2 := zb2.free
  have zb3 := Cell.new (w := w) (cs := #[.int .i64 0, .int .i64 0, .int .u8 0, .int .i64 0, .int .i64 0]) (t := 54) (o := 3) rfl
  have zc3 := zb3.cell
  have zf3 := zb3.free
  have zb4 := Cell.new (w := w) (cs := #[.int .i64 0, .int .i64 0, .int .u8 0, .int .i64 0, .int .i64 0]) (t := 54) (o := 4) rfl
  have zc4 := zb4.cell
  have zf4 := zb4.free
  have rr0 : ((((((w.alloc (.cells #[.int .i64 0, .int .i64 0, .int .u8 0, .int .i64 0, .int .i64 0] 54)).setCell ⟨w.heap.size, 0, none⟩ (.int .i64 0)).setCell ⟨w.heap.size, 1, none⟩ (.int .i64 0)).setCell ⟨w.heap.size, 2, none⟩ (.int .u8 0)).setCell ⟨w.heap.size, 3, none⟩ (.int .i64 0)).setCell ⟨w.heap.size, 4, none⟩ (.int .i64 0)).cell? ⟨w.heap.size, 0, none⟩ = some (.int .i64 0) := (show Cell ((((((w.alloc (.cells #[.int .i64 0, .int .i64 0, .int .u8 0, .int .i64 0, .int .i64 0] 54)).setCell ⟨w.heap.size, 0, none⟩ (.int .i64 0)).setCell ⟨w.heap.size, 1, none⟩ (.int .i64 0)).setCell ⟨w.heap.size, 2, none⟩ (.int .u8 0)).setCell ⟨w.heap.size, 3, none⟩ (.int .i64 0)).setCell ⟨w.heap.size, 4, none⟩ (.int .i64 0)) w.heap.size 0 (.int .i64 0) from (((((zb0.set _).far (off_ne (by decide)) _).far (off_ne (by decide)) _).far (off_ne (by decide)) _).far (off_ne (by decide)) _)).cell
  have rr1 : ((((((w.alloc (.cells #[.int .i64 0, .int .i64 0, .int .u8 0, .int .i64 0, .int .i64 0] 54)).setCell ⟨w.heap.size, 0, none⟩ (.int .i64 0)).setCell ⟨w.heap.size, 1, none⟩ (.int .i64 0)).setCell ⟨w.heap.size, 2, none⟩ (.int .u8 0)).setCell ⟨w.heap.size, 3, none⟩ (.int .i64 0)).setCell ⟨w.heap.size, 4, none⟩ (.int .i64 0)).cell? ⟨w.heap.size, 1, none⟩ = some (.int .i64 0) := (show Cell ((((((w.alloc (.cells #[.int .i64 0, .int .i64 0, .int .u8 0, .int .i64 0, .int .i64 0] 54)).setCell ⟨w.heap.size, 0, none⟩ (.int .i64 0)).setCell ⟨w.heap.size, 1, none⟩ (.int .i64 0)).setCell ⟨w.heap.size, 2, none⟩ (.int .u8 0)).setCell ⟨w.heap.size, 3, none⟩ (.int .i64 0)).setCell ⟨w.heap.size, 4, none⟩ (.int .i64 0)) w.heap.size 1 (.int .i64 0) from (((((zb1.far (off_ne (by decide)) _).set _).far (off_ne (by decide)) _).far (off_ne (by decide)) _).far (off_ne (by decide)) _)).cell
  have rr2 : ((((((w.alloc (.cells #[.int .i64 0, .int .i64 0, .int .u8 0, .int .i64 0, .int .i64 0] 54)).setCell ⟨w.heap.size, 0, none⟩ (.int .i64 0)).setCell ⟨w.heap.size, 1, none⟩ (.int .i64 0)).setCell ⟨w.heap.size, 2, none⟩ (.int .u8 0)).setCell ⟨w.heap.size, 3, none⟩ (.int .i64 0)).setCell ⟨w.heap.size, 4, none⟩ (.int .i64 0)).cell? ⟨w.heap.size, 2, none⟩ = some (.int .u8 0) := (show Cell ((((((w.alloc (.cells #[.int .i64 0, .int .i64 0, .int .u8 0, .int .i64 0, .int .i64 0] 54)).setCell ⟨w.heap.size, 0, none⟩ (.int .i64 0)).setCell ⟨w.heap.size, 1, none⟩ (.int .i64 0)).setCell ⟨w.heap.size, 2, none⟩ (.int .u8 0)).setCell ⟨w.heap.size, 3, none⟩ (.int .i64 0)).setCell ⟨w.heap.size, 4, none⟩ (.int .i64 0)) w.heap.size 2 (.int .u8 0) from (((((zb2.far (off_ne (by decide)) _).far (off_ne (by decide)) _).set _).far (off_ne (by decide)) _).far (off_ne (by decide)) _)).cell
  have rr3 : ((((((w.alloc (.cells #[.int .i64 0, .int .i64 0, .int .u8 0, .int .i64 0, .int .i64 0] 54)).setCell ⟨w.heap.size, 0, none⟩ (.int .i64 0)).setCell ⟨w.heap.size, 1, none⟩ (.int .i64 0)).setCell ⟨w.heap.size, 2, none⟩ (.int .u8 0)).setCell ⟨w.heap.size, 3, none⟩ (.int .i64 0)).setCell ⟨w.heap.size, 4, none⟩ (.int .i64 0)).cell? ⟨w.heap.size, 3, none⟩ = some (.int .i64 0) := (show Cell ((((((w.alloc (.cells #[.int .i64 0, .int .i64 0, .int .u8 0, .int .i64 0, .int .i64 0] 54)).setCell ⟨w.heap.size, 0, none⟩ (.int .i64 0)).setCell ⟨w.heap.size, 1, none⟩ (.int .i64 0)).setCell ⟨w.heap.size, 2, none⟩ (.int .u8 0)).setCell ⟨w.heap.size, 3, none⟩ (.int .i64 0)).setCell ⟨w.heap.size, 4, none⟩ (.int .i64 0)) w.heap.size 3 (.int .i64 0) from (((((zb3.far (off_ne (by decide)) _).far (off_ne (by decide)) _).far (off_ne (by decide)) _).set _).far (off_ne (by decide)) _)).cell
  have rr4 : ((((((w.alloc (.cells #[.int .i64 0, .int .i64 0, .int .u8 0, .int .i64 0, .int .i64 0] 54)).setCell ⟨w.heap.size, 0, none⟩ (.int .i64 0)).setCell ⟨w.heap.size, 1, none⟩ (.int .i64 0)).setCell ⟨w.heap.size, 2, none⟩ (.int .u8 0)).setCell ⟨w.heap.size, 3, none⟩ (.int .i64 0)).setCell ⟨w.heap.size, 4, none⟩ (.int .i64 0)).cell? ⟨w.heap.size, 4, none⟩ = some (.int .i64 0) := (show Cell ((((((w.alloc (.cells #[.int .i64 0, .int .i64 0, .int .u8 0, .int .i64 0, .int .i64 0] 54)).setCell ⟨w.heap.size, 0, none⟩ (.int .i64 0)).setCell ⟨w.heap.size, 1, none⟩ (.int .i64 0)).setCell ⟨w.heap.size, 2, none⟩ (.int .u8 0)).setCell ⟨w.heap.size, 3, none⟩ (.int .i64 0)).setCell ⟨w.heap.size, 4, none⟩ (.int .i64 0)) w.heap.size 4 (.int .i64 0) from (((((zb4.far (off_ne (by decide)) _).far (off_ne (by decide)) _).far (off_ne (by decide)) _).far (off_ne (by decide)) _).set _)).cell
  clear e h h0 hr zb0 zb1 zb2 zb3 zb4
  go_enter Try.func79, Try.ntmps79
  go_wp2_with ((go_at_call 101; refine HI.out.mono ?_; rintro e w1 ⟨rfl, rfl⟩))
  refine bodyPost_ret (by simp [results, Try.results79, go_sem, rr0, rr1, rr2, rr3, rr4]; try rfl) rfl ?_
  exact ⟨rfl, by repeat' (first | (with_reducible exact Only.refl _ _) | (with_reducible assumption) | (refine Only.of_none ?_; with_reducible assumption) | (with_reducible refine Only.drewN ?_ _) | (with_reducible refine Only.drew ?_) | (with_reducible refine Only.alloc ?_ _) | (with_reducible refine Only.setCell ?_ ?_ _) | (with_reducible refine Only.then0 ?_ (by with_reducible assumption)) | (with_reducible refine Only.thenN ?_ (by with_reducible assumption) ?_) | (with_reducible refine Only.trans ?_ (by with_reducible assumption)) | (refine .inl ?_; first | rfl | (simp; done) | (simp [Ar.blk]; done)) | (refine .inr ?_; first | omega | (simp; done) | (simp; omega) | exact Only.size (by with_reducible assumption) | (refine Nat.le_trans (Only.size (by with_reducible assumption)) ?_; simp; done)))⟩
end Od
end Go.Proofs.Ytkglplngnjgnhaa
