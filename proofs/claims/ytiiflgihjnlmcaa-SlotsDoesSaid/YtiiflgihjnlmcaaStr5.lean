/- Slots: the calls that only look, walked. Conditions: an arena as New lays it. -/
import Derived.Test.YtiiflgihjnlmcaaStr3
namespace Go.Proofs.Ytiiflgihjnlmcaa
set_option linter.unusedVariables false
set_option linter.unusedSimpArgs false
namespace Str
open Go.RowKit

set_option maxHeartbeats 1000000 in
theorem s_is (w : World) (b : Nat) (A : Ar) (r : Int) (h : ArAt w b A) :
    Calls Try.prog 119 #[.pointer (some ⟨b, 0, none⟩), .int .i64 r] w fun e w' => e = .returned (.bool (decide (A.isRow r))) ∧ w = w' := by
  have c1 := h.c1.cell
  have hlt := h.c1.lt
  have hs := h.small.2.1
  clear h
  unfold Ar.isRow
  by_cases h1 : 0 ≤ r
  · by_cases h2 : r < A.nr
    · have e : decide (0 ≤ r ∧ r < (A.nr : Int)) = true := by simp [h1, h2]
      rw [e]; clear e
      go_enter Try.func119, Try.ntmps119
      go_wp2
      go_ret
      exact ⟨rfl, rfl⟩
    · have e : decide (0 ≤ r ∧ r < (A.nr : Int)) = false := by simp; omega
      have h3 : decide (r < (A.nr : Int)) = false := by simpa using h2
      rw [e]; clear e h2
      go_enter Try.func119, Try.ntmps119
      go_wp2
      go_ret
      exact ⟨rfl, rfl⟩
  · have e : decide (0 ≤ r ∧ r < (A.nr : Int)) = false := by simp; omega
    have h3 : decide (0 ≤ r) = false := by simpa using h1
    rw [e]; clear e h1
    go_enter Try.func119, Try.ntmps119
    go_wp2
    go_ret
    exact ⟨rfl, rfl⟩

set_option maxHeartbeats 1000000 in
theorem s_has (w : World) (b : Nat) (A : Ar) (n : Int) (h : ArAt w b A) :
    Calls Try.prog 133 #[.pointer (some ⟨b, 0, none⟩), .int .i64 n] w fun e w' => e = .returned (.bool (decide (A.hasN n))) ∧ w = w' := by
  have c0 := h.c0.cell
  have hlt := h.c0.lt
  have hs := h.small.1
  unfold Ar.hasN
  by_cases h1 : 0 ≤ n
  · by_cases h2 : n < A.room
    · have c := (h.l1 n.toNat (by omega)).cell
      by_cases h3 : A.ro n.toNat = -1
      · have e : decide ((0 ≤ n ∧ n < (A.room : Int)) ∧ A.ro n.toNat ≠ -1) = false := by simp [h3]
        rw [e]
        rw [h3] at c
        clear e h h3
        go_enter Try.func133, Try.ntmps133
        go_wp2
        go_ret
        exact ⟨rfl, rfl⟩
      · have e : decide ((0 ≤ n ∧ n < (A.room : Int)) ∧ A.ro n.toNat ≠ -1) = true := by simp [h1, h2, h3]
        have h4 : (A.ro n.toNat != -1) = true := by simpa using h3
        rw [e]
        generalize A.ro n.toNat = x at *
        clear e h h3
        go_enter Try.func133, Try.ntmps133
        go_wp2
        go_ret
        exact ⟨rfl, rfl⟩
    · have e : decide ((0 ≤ n ∧ n < (A.room : Int)) ∧ A.ro n.toNat ≠ -1) = false := by simp [h2]
      have h3 : decide (n < (A.room : Int)) = false := by simpa using h2
      rw [e]; clear e h2 h
      go_enter Try.func133, Try.ntmps133
      go_wp2
      go_ret
      exact ⟨rfl, rfl⟩
  · have e : decide ((0 ≤ n ∧ n < (A.room : Int)) ∧ A.ro n.toNat ≠ -1) = false := by simp [h1]
    have h3 : decide (0 ≤ n) = false := by simpa using h1
    rw [e]; clear e h1 h
    go_enter Try.func133, Try.ntmps133
    go_wp2
    go_ret
    exact ⟨rfl, rfl⟩

set_option maxHeartbeats 1000000 in
theorem s_first (w : World) (b : Nat) (A : Ar) (r : Int) (h : ArAt w b A) :
    Calls Try.prog 91 #[.pointer (some ⟨b, 0, none⟩), .int .i64 r] w fun e w' => e = .returned (.int .i64 (if A.isRow r then A.rf r.toNat else -1)) ∧ w = w' := by
  have HI := Lib.hid (s_is w b A r h)
  have c1 := h.c1.cell
  have hlt := h.c1.lt
  by_cases hr : A.isRow r
  · rw [if_pos hr]
    have e : decide (A.isRow r) = true := by simp [hr]
    rw [e] at HI
    have h1 := hr.1
    have h2 := hr.2
    have c := (h.r0 r.toNat (by omega)).cell
    generalize A.rf r.toNat = x at *
    clear e h hr
    go_enter Try.func91, Try.ntmps91
    go_wp2_with ((go_at_call 119; refine HI.out.mono ?_; rintro e w1 ⟨rfl, rfl⟩))
    go_ret
    exact ⟨rfl, rfl⟩
  · rw [if_neg hr]
    have e : decide (A.isRow r) = false := by simp [hr]
    rw [e] at HI
    clear e h hr
    go_enter Try.func91, Try.ntmps91
    go_wp2_with ((go_at_call 119; refine HI.out.mono ?_; rintro e w1 ⟨rfl, rfl⟩))
    go_ret
    exact ⟨rfl, rfl⟩

set_option maxHeartbeats 1000000 in
theorem s_next (w : World) (b : Nat) (A : Ar) (n : Int) (h : ArAt w b A) :
    Calls Try.prog 89 #[.pointer (some ⟨b, 0, none⟩), .int .i64 n] w fun e w' => e = .returned (.int .i64 (if A.hasN n then A.fa n.toNat else -1)) ∧ w = w' := by
  have HI := Lib.hid (s_has w b A n h)
  have c0 := h.c0.cell
  have hlt := h.c0.lt
  by_cases hr : A.hasN n
  · rw [if_pos hr]
    have e : decide (A.hasN n) = true := by simp [hr]
    rw [e] at HI
    have h1 := hr.1.1
    have h2 := hr.1.2
    have c := (h.l3 n.toNat (by omega)).cell
    generalize A.fa n.toNat = x at *
    clear e h hr
    go_enter Try.func89, Try.ntmps89
    go_wp2_with ((go_at_call 133; refine HI.out.mono ?_; rintro e w1 ⟨rfl, rfl⟩))
    go_ret
    exact ⟨rfl, rfl⟩
  · rw [if_neg hr]
    have e : decide (A.hasN n) = false := by simp [hr]
    rw [e] at HI
    clear e h hr
    go_enter Try.func89, Try.ntmps89
    go_wp2_with ((go_at_call 133; refine HI.out.mono ?_; rintro e w1 ⟨rfl, rfl⟩))
    go_ret
    exact ⟨rfl, rfl⟩
end Str
end Go.Proofs.Ytiiflgihjnlmcaa
