/- Slots: Get, Set, Row, Len, Free, walked. Conditions: an arena as New lays it. -/
import Derived.Test.YtiiflgihjnlmcaaSlotsH
namespace Go.Proofs.Ytiiflgihjnlmcaa
set_option linter.unusedVariables false
set_option linter.unusedSimpArgs false
open Go.RowKit

set_option maxHeartbeats 1000000 in
theorem s_len (w : World) (b : Nat) (A : Ar) (r : Int) (h : ArAt w b A) :
    Calls Try.prog 65 #[.pointer (some ⟨b, 0, none⟩), .int .i64 r] w fun e w' => e = .returned (.int .i64 (if A.isRow r then A.rn r.toNat else 0)) ∧ w = w' := by
  have HI := Lib.hid (s_is w b A r h)
  have c1 := h.c1.cell
  have hlt := h.c1.lt
  by_cases hr : A.isRow r
  · rw [if_pos hr]
    have e : decide (A.isRow r) = true := by simp [hr]
    rw [e] at HI
    have h1 := hr.1
    have h2 := hr.2
    have c := (h.r2 r.toNat (by omega)).cell
    generalize A.rn r.toNat = x at *
    clear e h hr
    go_enter Try.func65, Try.ntmps65
    go_wp2_with ((go_at_call 92; refine HI.out.mono ?_; rintro e w1 ⟨rfl, rfl⟩))
    go_ret
    exact ⟨rfl, rfl⟩
  · rw [if_neg hr]
    have e : decide (A.isRow r) = false := by simp [hr]
    rw [e] at HI
    clear e h hr
    go_enter Try.func65, Try.ntmps65
    go_wp2_with ((go_at_call 92; refine HI.out.mono ?_; rintro e w1 ⟨rfl, rfl⟩))
    go_ret
    exact ⟨rfl, rfl⟩

set_option maxHeartbeats 1000000 in
theorem s_row (w : World) (b : Nat) (A : Ar) (n : Int) (h : ArAt w b A) :
    Calls Try.prog 68 #[.pointer (some ⟨b, 0, none⟩), .int .i64 n] w fun e w' => e = .returned (.int .i64 (if A.hasN n then A.ro n.toNat else -1)) ∧ w = w' := by
  have HI := Lib.hid (s_has w b A n h)
  have c0 := h.c0.cell
  have hlt := h.c0.lt
  by_cases hr : A.hasN n
  · rw [if_pos hr]
    have e : decide (A.hasN n) = true := by simp [hr]
    rw [e] at HI
    have h1 := hr.1.1
    have h2 := hr.1.2
    have c := (h.l1 n.toNat (by omega)).cell
    generalize A.ro n.toNat = x at *
    clear e h hr
    go_enter Try.func68, Try.ntmps68
    go_wp2_with ((go_at_call 94; refine HI.out.mono ?_; rintro e w1 ⟨rfl, rfl⟩))
    go_ret
    exact ⟨rfl, rfl⟩
  · rw [if_neg hr]
    have e : decide (A.hasN n) = false := by simp [hr]
    rw [e] at HI
    clear e h hr
    go_enter Try.func68, Try.ntmps68
    go_wp2_with ((go_at_call 94; refine HI.out.mono ?_; rintro e w1 ⟨rfl, rfl⟩))
    go_ret
    exact ⟨rfl, rfl⟩
set_option maxHeartbeats 1000000 in
theorem s_get (w : World) (b : Nat) (A : Ar) (n : Int) (v : Int) (h : ArAt w b A) (hr : A.hasN n) (hv : A.th n.toNat = .int .i64 v) :
    Calls Try.prog 67 #[.pointer (some ⟨b, 0, none⟩), .int .i64 n] w fun e w' => e = .returned (.tuple #[.int .i64 v, .bool true]) ∧ w = w' := by
  have HI := Lib.hid (s_has w b A n h)
  have c0 := h.c0.cell
  have hlt := h.c0.lt
  have e : decide (A.hasN n) = true := by simp [hr]
  rw [e] at HI
  have h1 := hr.1.1
  have h2 := hr.1.2
  have c := (h.l0 n.toNat (by omega)).cell
  rw [hv] at c
  clear e h hr hv
  go_enter Try.func67, Try.ntmps67
  go_wp2_with ((go_at_call 94; refine HI.out.mono ?_; rintro e w1 ⟨rfl, rfl⟩))
  go_returns
  exact ⟨rfl, rfl⟩
set_option maxHeartbeats 1000000 in
theorem s_get_no (w : World) (b : Nat) (A : Ar) (n : Int) (h : ArAt w b A) (hr : ¬ A.hasN n) :
    Calls Try.prog 67 #[.pointer (some ⟨b, 0, none⟩), .int .i64 n] w fun e w' => e = .returned (.tuple #[.int .i64 0, .bool false]) ∧ w = w' := by
  have HI := Lib.hid (s_has w b A n h)
  have e : decide (A.hasN n) = false := by simp [hr]
  rw [e] at HI
  clear e h hr
  go_enter Try.func67, Try.ntmps67
  go_wp2_with ((go_at_call 94; refine HI.out.mono ?_; rintro e w1 ⟨rfl, rfl⟩))
  go_returns
  exact ⟨rfl, rfl⟩

--<int>
set_option maxHeartbeats 1000000 in
theorem s_set_no (w : World) (b : Nat) (A : Ar) (n : Int) (v : Int) (h : ArAt w b A) (hr : ¬ A.hasN n) :
    Calls Try.prog 123 #[.pointer (some ⟨b, 0, none⟩), .int .i64 n, .int .i64 v] w fun e w' => e = .returned (.bool false) ∧ w = w' := by
  have HI := Lib.hid (s_has w b A n h)
  have e : decide (A.hasN n) = false := by simp [hr]
  rw [e] at HI
  clear e h hr
  go_enter Try.func123, Try.ntmps123
  go_wp2_with ((go_at_call 94; refine HI.out.mono ?_; rintro e w1 ⟨rfl, rfl⟩))
  go_ret
  exact ⟨rfl, rfl⟩
set_option maxHeartbeats 1000000 in
theorem s_set (w : World) (b : Nat) (A : Ar) (n : Nat) (v : Int) (h : ArAt w b A) (hr : A.hasN n) :
    Calls Try.prog 123 #[.pointer (some ⟨b, 0, none⟩), .int .i64 n, .int .i64 v] w fun e w' => e = .returned (.bool true) ∧ ArAt w' b { A with th := upd A.th n (.int .i64 v) } ∧ Only (A.blk b) w w' := by
  have HI := Lib.hid (s_has w b A n h)
  have c0 := h.c0.cell
  have hlt := h.c0.lt
  have hglw := h.lr.1
  have e : decide (A.hasN n) = true := by simp [hr]
  rw [e] at HI
  have h2 : n < A.room := by have := hr.1.2; omega
  obtain ⟨t0, u0⟩ := h.l0 n h2
  have HW := Lib.hid (fun x => h.set_th (i := n) h2 x)
  clear e h hr
  go_enter Try.func123, Try.ntmps123
  go_wp2_with ((go_at_call 94; refine HI.out.mono ?_; rintro e w1 ⟨rfl, rfl⟩))
  go_ret
  exact ⟨rfl, HW.out _, by repeat' (first | (with_reducible exact Only.refl _ _) | (with_reducible assumption) | (refine Only.of_none ?_; with_reducible assumption) | (with_reducible refine Only.drewN ?_ _) | (with_reducible refine Only.drew ?_) | (with_reducible refine Only.alloc ?_ _) | (with_reducible refine Only.setCell ?_ ?_ _) | (with_reducible refine Only.then0 ?_ (by with_reducible assumption)) | (with_reducible refine Only.thenN ?_ (by with_reducible assumption) ?_) | (with_reducible refine Only.trans ?_ (by with_reducible assumption)) | (refine .inl ?_; first | rfl | (simp; done) | (simp [Ar.blk]; done)) | (refine .inr ?_; first | omega | (simp; done) | (simp; omega) | exact Only.size (by with_reducible assumption) | (refine Nat.le_trans (Only.size (by with_reducible assumption)) ?_; simp; done)))⟩
--</int>
set_option maxHeartbeats 1000000 in
theorem s_free (w : World) (b : Nat) (A : Ar) (h : ArAt w b A) :
    Calls Try.prog 69 #[.pointer (some ⟨b, 0, none⟩)] w fun e w' => e = .returned (.int .i64 A.nf) ∧ w = w' := by
  have c2 := h.c2.cell
  have hlt := h.c2.lt
  clear h
  go_enter Try.func69, Try.ntmps69
  go_wp2
  go_ret
  exact ⟨rfl, rfl⟩
end Go.Proofs.Ytiiflgihjnlmcaa
