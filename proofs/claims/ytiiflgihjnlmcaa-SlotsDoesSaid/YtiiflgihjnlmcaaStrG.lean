/- Slots, the instance of strings: Get, Len. Conditions: an arena as New lays it. -/
import Derived.Test.YtiiflgihjnlmcaaStrH
namespace Go.Proofs.Ytiiflgihjnlmcaa
set_option linter.unusedVariables false
set_option linter.unusedSimpArgs false
namespace Str
open Go.RowKit

set_option maxHeartbeats 1000000 in
theorem s_len (w : World) (b : Nat) (A : Ar) (r : Int) (h : ArAt w b A) :
    Calls Try.prog 75 #[.pointer (some ⟨b, 0, none⟩), .int .i64 r] w fun e w' => e = .returned (.int .i64 (if A.isRow r then A.rn r.toNat else 0)) ∧ w = w' := by
  have HI := Lib.hid (s_is w b A r h)
  have c1 := h.c1.cell
  have hlt := h.c1.lt
  by_cases hr : A.isRow r
  · rw [if_pos hr]
    have e : decide (A.isRow r) = true := by simp [hr]
    rw [e] at HI
    have h1 := hr.1
    have h2 := hr.2
    have c := (h.r2 r.toNat (by omega)).cell
    generalize A.rn r.toNat = x at *
    clear e h hr
    go_enter Try.func75, Try.ntmps75
    go_wp2_with ((go_at_call 119; refine HI.out.mono ?_; rintro e w1 ⟨rfl, rfl⟩))
    go_ret
    exact ⟨rfl, rfl⟩
  · rw [if_neg hr]
    have e : decide (A.isRow r) = false := by simp [hr]
    rw [e] at HI
    clear e h hr
    go_enter Try.func75, Try.ntmps75
    go_wp2_with ((go_at_call 119; refine HI.out.mono ?_; rintro e w1 ⟨rfl, rfl⟩))
    go_ret
    exact ⟨rfl, rfl⟩

set_option maxHeartbeats 1000000 in
theorem s_get (w : World) (b : Nat) (A : Ar) (n : Int) (v : ByteArray) (h : ArAt w b A) (hr : A.hasN n) (hv : A.th n.toNat = .string v) :
    Calls Try.prog 74 #[.pointer (some ⟨b, 0, none⟩), .int .i64 n] w fun e w' => e = .returned (.tuple #[.string v, .bool true]) ∧ w = w' := by
  have HI := Lib.hid (s_has w b A n h)
  have c0 := h.c0.cell
  have hlt := h.c0.lt
  have e : decide (A.hasN n) = true := by simp [hr]
  rw [e] at HI
  have h1 := hr.1.1
  have h2 := hr.1.2
  have c := (h.l0 n.toNat (by omega)).cell
  rw [hv] at c
  clear e h hr hv
  go_enter Try.func74, Try.ntmps74
  go_wp2_with ((go_at_call 133; refine HI.out.mono ?_; rintro e w1 ⟨rfl, rfl⟩))
  go_returns
  exact ⟨rfl, rfl⟩

variable (w : World) (b gl gr gf nr room : Nat) (R : Nat → List Nat) (V : Nat → ByteArray)
theorem h_get (h : Lay w b gl gr gf nr room R V) (r n : Nat) (hr : r < nr) (hn : n ∈ R r) :
    Calls Try.prog 74 #[.pointer (some ⟨b, 0, none⟩), .int .i64 n] w fun e w' => e = .returned (.tuple #[.string (V n), .bool true]) ∧ w = w' := by
  obtain ⟨A, hA, hR, rfl, rfl, rfl, rfl, rfl, ht⟩ := h
  exact s_get w b A n (V n) hA (hR.has hr hn) (by rw [Int.toNat_natCast]; exact ht n (hR.lt r hr n hn))

theorem h_len (h : Lay w b gl gr gf nr room R V) (r : Nat) (hr : r < nr) :
    Calls Try.prog 75 #[.pointer (some ⟨b, 0, none⟩), .int .i64 r] w fun e w' => e = .returned (.int .i64 (R r).length) ∧ w = w' := by
  obtain ⟨A, hA, hR, rfl, rfl, rfl, rfl, rfl, ht⟩ := h
  have := s_len w b A r hA
  rw [if_pos (show A.isRow r from ⟨by omega, by omega⟩), Int.toNat_natCast, hR.ln r hr] at this
  exact this
end Str
end Go.Proofs.Ytiiflgihjnlmcaa
