/- Slots: the calls that only look, walked. Conditions: an arena as New lays it. -/
import Derived.Test.YtkglplngnjgnhaaOrd3
import Derived.Test.YtkglplngnjgnhaaOrd4
namespace Go.Proofs.Ytkglplngnjgnhaa
set_option linter.unusedVariables false
set_option linter.unusedSimpArgs false
namespace Od
open Go.RowKit

--<shared>
def Ar.isRow (A : Ar) (r : Int) : Prop := 0 ≤ r ∧ r < A.nr
instance (A : Ar) (r : Int) : Decidable (A.isRow r) := by unfold Ar.isRow; infer_instance
def Ar.hasN (A : Ar) (n : Int) : Prop := (0 ≤ n ∧ n < A.room) ∧ A.ro n.toNat ≠ -1
instance (A : Ar) (n : Int) : Decidable (A.hasN n) := by unfold Ar.hasN; infer_instance

--</shared>
set_option maxHeartbeats 1000000 in
theorem s_is (w : World) (b : Nat) (A : Ar) (r : Int) (h : ArAt w b A) :
    Calls Try.prog 99 #[.pointer (some ⟨b, 0, none⟩), .int .i64 r] w fun e w' => e = .returned (.bool (decide (A.isRow r))) ∧ w = w' := by
  have c1 := h.c1.cell
  have hlt := h.c1.lt
  have hs := h.small.2.1
  clear h
  unfold Ar.isRow
  by_cases h1 : 0 ≤ r
  · by_cases h2 : r < A.nr
    · have e : decide (0 ≤ r ∧ r < (A.nr : Int)) = true := by simp [h1, h2]
      rw [e]; clear e
      go_enter Try.func99, Try.ntmps99
      go_wp2
      go_ret
      exact ⟨rfl, rfl⟩
    · have e : decide (0 ≤ r ∧ r < (A.nr : Int)) = false := by simp; omega
      have h3 : decide (r < (A.nr : Int)) = false := by simpa using h2
      rw [e]; clear e h2
      go_enter Try.func99, Try.ntmps99
      go_wp2
      go_ret
      exact ⟨rfl, rfl⟩
  · have e : decide (0 ≤ r ∧ r < (A.nr : Int)) = false := by simp; omega
    have h3 : decide (0 ≤ r) = false := by simpa using h1
    rw [e]; clear e h1
    go_enter Try.func99, Try.ntmps99
    go_wp2
    go_ret
    exact ⟨rfl, rfl⟩

set_option maxHeartbeats 1000000 in
theorem s_has (w : World) (b : Nat) (A : Ar) (n : Int) (h : ArAt w b A) :
    Calls Try.prog 101 #[.pointer (some ⟨b, 0, none⟩), .int .i64 n] w fun e w' => e = .returned (.bool (decide (A.hasN n))) ∧ w = w' := by
  have c0 := h.c0.cell
  have hlt := h.c0.lt
  have hs := h.small.1
  unfold Ar.hasN
  by_cases h1 : 0 ≤ n
  · by_cases h2 : n < A.room
    · have c := (h.l1 n.toNat (by omega)).cell
      by_cases h3 : A.ro n.toNat = -1
      · have e : decide ((0 ≤ n ∧ n < (A.room : Int)) ∧ A.ro n.toNat ≠ -1) = false := by simp [h3]
        rw [e]
        rw [h3] at c
        clear e h h3
        go_enter Try.func101, Try.ntmps101
        go_wp2
        go_ret
        exact ⟨rfl, rfl⟩
      · have e : decide ((0 ≤ n ∧ n < (A.room : Int)) ∧ A.ro n.toNat ≠ -1) = true := by simp [h1, h2, h3]
        have h4 : (A.ro n.toNat != -1) = true := by simpa using h3
        rw [e]
        generalize A.ro n.toNat = x at *
        clear e h h3
        go_enter Try.func101, Try.ntmps101
        go_wp2
        go_ret
        exact ⟨rfl, rfl⟩
    · have e : decide ((0 ≤ n ∧ n < (A.room : Int)) ∧ A.ro n.toNat ≠ -1) = false := by simp [h2]
      have h3 : decide (n < (A.room : Int)) = false := by simpa using h2
      rw [e]; clear e h2 h
      go_enter Try.func101, Try.ntmps101
      go_wp2
      go_ret
      exact ⟨rfl, rfl⟩
  · have e : decide ((0 ≤ n ∧ n < (A.room : Int)) ∧ A.ro n.toNat ≠ -1) = false := by simp [h1]
    have h3 : decide (0 ≤ n) = false := by simpa using h1
    rw [e]; clear e h1 h
    go_enter Try.func101, Try.ntmps101
    go_wp2
    go_ret
    exact ⟨rfl, rfl⟩

set_option maxHeartbeats 1000000 in
theorem s_first (w : World) (b : Nat) (A : Ar) (r : Int) (h : ArAt w b A) :
    Calls Try.prog 111 #[.pointer (some ⟨b, 0, none⟩), .int .i64 r] w fun e w' => e = .returned (.int .i64 (if A.isRow r then A.rf r.toNat else -1)) ∧ w = w' := by
  have HI := Lib.hid (s_is w b A r h)
  have c1 := h.c1.cell
  have hlt := h.c1.lt
  by_cases hr : A.isRow r
  · rw [if_pos hr]
    have e : decide (A.isRow r) = true := by simp [hr]
    rw [e] at HI
    have h1 := hr.1
    have h2 := hr.2
    have c := (h.r0 r.toNat (by omega)).cell
    generalize A.rf r.toNat = x at *
    clear e h hr
    go_enter Try.func111, Try.ntmps111
    go_wp2_with ((go_at_call 99; refine HI.out.mono ?_; rintro e w1 ⟨rfl, rfl⟩))
    go_ret
    exact ⟨rfl, rfl⟩
  · rw [if_neg hr]
    have e : decide (A.isRow r) = false := by simp [hr]
    rw [e] at HI
    clear e h hr
    go_enter Try.func111, Try.ntmps111
    go_wp2_with ((go_at_call 99; refine HI.out.mono ?_; rintro e w1 ⟨rfl, rfl⟩))
    go_ret
    exact ⟨rfl, rfl⟩
end Od
end Go.Proofs.Ytkglplngnjgnhaa
