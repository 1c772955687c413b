/- The document's book in memory: Sided, May, Len, Room, place, Get, Side, Best. Conditions: a book as its New lays it. -/
import Derived.Test.YtilngakgofjmpaaBkG
import Derived.Test.YtilngakgofjmpaaJ6
namespace Go.Proofs.Ytilngakgofjmpaa
set_option linter.unusedVariables false
set_option linter.unusedSimpArgs false
open Go.RowKit Go.Shelf
open Od (OrdR)

/-- The document's book lies at r: its orders by priority, in rows of its own. -/
structure R6M (w : World) (r : Nat) (vv : Bool → Value) (most room : Nat) (l : Bool → List OrdR) : Prop where
  c0 : Cell w r 0 (.int .i64 (room : Nat))
  c1 : Cell w r 1 (.int .i64 (most : Nat))
  c2 : Cell w r 2 (vv false)
  c3 : Cell w r 3 (vv true)
  own : ∀ q, w.ownsRow 0 54 5 (vv q) (l q).length (ordC (l q))
  sep : ∀ q g, (vv q).ownBlock = some g → g ≠ r
  two : ∀ g, (vv false).ownBlock = some g → (vv true).ownBlock ≠ some g
def R6T (r : Nat) (vv : Bool → Value) (i : Nat) : Prop := i = r ∨ ∃ q, (vv q).ownBlock = some i
def R6 (w : World) (r : Nat) (T : Nat → Prop) (most room : Nat) (l : Bool → List OrdR) : Prop := ∃ vv, R6M w r vv most room l ∧ T = R6T r vv

section
variable {w : World} {r most room : Nat} {vv : Bool → Value} {T : Nat → Prop} {l : Bool → List OrdR}
theorem R6M.only {w' : World} {S : Nat → Prop} (h : R6M w r vv most room l) (o : Only S w w') (hS : ∀ i, R6T r vv i → ¬ S i) : R6M w' r vv most room l :=
  have hr := hS r (.inl rfl)
  ⟨h.c0.only o hr, h.c1.only o hr, h.c2.only o hr, h.c3.only o hr, fun q => ownsRow_apart (h.own q) o fun i hi => hS i (.inr ⟨q, hi⟩), h.sep, h.two⟩
theorem R6M.lt (h : R6M w r vv most room l) (i : Nat) (hi : R6T r vv i) : i < w.heap.size := by
  rcases hi with rfl | ⟨q, hi⟩
  · exact h.c0.lt
  · exact ((h.own q).lt i hi).2
theorem R6.only {w' : World} {S : Nat → Prop} (h : R6 w r T most room l) (o : Only S w w') (hS : ∀ i, T i → ¬ S i) : R6 w' r T most room l := by
  obtain ⟨vv, h, rfl⟩ := h
  exact ⟨vv, h.only o hS, rfl⟩
theorem R6.lt (h : R6 w r T most room l) (i : Nat) (hi : T i) : i < w.heap.size := by
  obtain ⟨vv, h, rfl⟩ := h
  exact h.lt i hi
/-- The two slices, written out. -/
theorem R6M.parts (h : R6M w r vv most room l) : ∃ a0 k0 a1 k1, vv false = .slice a0 (l false).length k0 ∧ vv true = .slice a1 (l true).length k1 ∧ OrdAt w a0 (l false) ∧ OrdAt w a1 (l true) ∧ (l false).length ≤ k0 ∧ (l true).length ≤ k1 := by
  obtain ⟨a0, k0, e0, h0, o0⟩ := OrdAt.of_own (h.own false)
  obtain ⟨a1, k1, e1, h1, o1⟩ := OrdAt.of_own (h.own true)
  exact ⟨a0, k0, a1, k1, e0, e1, o0, o1, h0, h1⟩

/-! ### Sided, May -/
theorem r6_sided (s : Int) (w : World) : Calls Try.prog 136 #[.int .u8 s] w fun e w' => e = .returned (.bool (sidedB s)) ∧ w = w' := by
  by_cases h1 : s = 1
  · subst h1
    go_enter Try.func136, Try.ntmps136
    go_wp2_with fail
    go_returns
    exact ⟨rfl, rfl⟩
  · have t1 : (s == 1) = false := by simpa using h1
    by_cases h2 : s = 2
    · subst h2
      go_enter Try.func136, Try.ntmps136
      go_wp2_with fail
      go_returns
      exact ⟨rfl, rfl⟩
    · have t2 : (s == 2) = false := by simpa using h2
      have e : sidedB s = false := by simp [sidedB, h1, h2]
      rw [e]
      clear e h1 h2
      go_enter Try.func136, Try.ntmps136
      go_wp2_with fail
      go_returns
      exact ⟨rfl, rfl⟩
set_option maxRecDepth 100000 in
set_option maxHeartbeats 2000000 in
theorem r6_may (o : OrdR) (w : World) : Calls Try.prog 131 #[ordV o] w fun e w' => e = .returned (.bool (mayB o)) ∧ Only (fun _ => False) w w' := by
  obtain ⟨oi, oc, os, op, oq⟩ := o
  have HS := Lib.hid (r6_sided os)
  have hmay : mayB ⟨oi, oc, os, op, oq⟩ = (sidedB os && (decide (1 ≤ oi) && (decide (1 ≤ oc) && (decide (oc ≤ 8) && (decide (1 ≤ op) && (decide (op ≤ 1000000000) && (decide (1 ≤ oq) && decide (oq ≤ 1000000000)))))))) := by
    unfold mayB inB
    rw [Bool.eq_iff_iff]
    simp only [Bool.and_eq_true, decide_eq_true_eq]
    constructor
    · rintro ⟨⟨⟨⟨a, b, c⟩, d⟩, e, f⟩, g, h⟩; exact ⟨d, a, b, c, e, f, g, h⟩
    · rintro ⟨d, a, b, c, e, f, g, h⟩; exact ⟨⟨⟨⟨a, b, c⟩, d⟩, e, f⟩, g, h⟩
  unfold ordV
  rw [hmay]
  clear hmay
  simp only
  cases t0 : sidedB os with
  | false =>
    rw [t0] at HS
    simp only [Bool.false_and, Bool.true_and]
    go_enter Try.func131, Try.ntmps131
    go_wp2_with fail
    refine (HS.out _).mono ?_
    rintro e w1 ⟨rfl, rfl⟩
    go_wp2_with fail
    go_returns
    exact ⟨rfl, by repeat' (first | (with_reducible exact Only.refl _ _) | (with_reducible assumption) | (refine Only.of_none ?_; with_reducible assumption) | (with_reducible refine Only.drewN ?_ _) | (with_reducible refine Only.drew ?_) | (with_reducible refine Only.alloc ?_ _) | (with_reducible refine Only.setCell ?_ ?_ _) | (with_reducible refine Only.then0 ?_ (by with_reducible assumption)) | (with_reducible refine Only.thenN ?_ (by with_reducible assumption) ?_) | (with_reducible refine Only.trans ?_ (by with_reducible assumption)) | (refine .inl ?_; first | rfl | (simp; done) | (simp [Ar.blk]; done)) | (refine .inr ?_; first | omega | (simp; done) | (simp; omega) | exact Only.size (by with_reducible assumption) | (refine Nat.le_trans (Only.size (by with_reducible assumption)) ?_; simp; done)))⟩
  | true =>
    rw [t0] at HS
    cases t1 : decide (1 ≤ oi) with
    | false =>
      simp only [Bool.false_and, Bool.true_and]
      go_enter Try.func131, Try.ntmps131
      go_wp2_with fail
      refine (HS.out _).mono ?_
      rintro e w1 ⟨rfl, rfl⟩
      go_wp2_with fail
      go_returns
      exact ⟨rfl, by repeat' (first | (with_reducible exact Only.refl _ _) | (with_reducible assumption) | (refine Only.of_none ?_; with_reducible assumption) | (with_reducible refine Only.drewN ?_ _) | (with_reducible refine Only.drew ?_) | (with_reducible refine Only.alloc ?_ _) | (with_reducible refine Only.setCell ?_ ?_ _) | (with_reducible refine Only.then0 ?_ (by with_reducible assumption)) | (with_reducible refine Only.thenN ?_ (by with_reducible assumption) ?_) | (with_reducible refine Only.trans ?_ (by with_reducible assumption)) | (refine .inl ?_; first | rfl | (simp; done) | (simp [Ar.blk]; done)) | (refine .inr ?_; first | omega | (simp; done) | (simp; omega) | exact Only.size (by with_reducible assumption) | (refine Nat.le_trans (Only.size (by with_reducible assumption)) ?_; simp; done)))⟩
    | true =>
      cases t2 : decide (1 ≤ oc) with
      | false =>
        simp only [Bool.false_and, Bool.true_and]
        go_enter Try.func131, Try.ntmps131
        go_wp2_with fail
        refine (HS.out _).mono ?_
        rintro e w1 ⟨rfl, rfl⟩
        go_wp2_with fail
        go_returns
        exact ⟨rfl, by repeat' (first | (with_reducible exact Only.refl _ _) | (with_reducible assumption) | (refine Only.of_none ?_; with_reducible assumption) | (with_reducible refine Only.drewN ?_ _) | (with_reducible refine Only.drew ?_) | (with_reducible refine Only.alloc ?_ _) | (with_reducible refine Only.setCell ?_ ?_ _) | (with_reducible refine Only.then0 ?_ (by with_reducible assumption)) | (with_reducible refine Only.thenN ?_ (by with_reducible assumption) ?_) | (with_reducible refine Only.trans ?_ (by with_reducible assumption)) | (refine .inl ?_; first | rfl | (simp; done) | (simp [Ar.blk]; done)) | (refine .inr ?_; first | omega | (simp; done) | (simp; omega) | exact Only.size (by with_reducible assumption) | (refine Nat.le_trans (Only.size (by with_reducible assumption)) ?_; simp; done)))⟩
      | true =>
        cases t3 : decide (oc ≤ 8) with
        | false =>
          simp only [Bool.false_and, Bool.true_and]
          go_enter Try.func131, Try.ntmps131
          go_wp2_with fail
          refine (HS.out _).mono ?_
          rintro e w1 ⟨rfl, rfl⟩
          go_wp2_with fail
          go_returns
          exact ⟨rfl, by repeat' (first | (with_reducible exact Only.refl _ _) | (with_reducible assumption) | (refine Only.of_none ?_; with_reducible assumption) | (with_reducible refine Only.drewN ?_ _) | (with_reducible refine Only.drew ?_) | (with_reducible refine Only.alloc ?_ _) | (with_reducible refine Only.setCell ?_ ?_ _) | (with_reducible refine Only.then0 ?_ (by with_reducible assumption)) | (with_reducible refine Only.thenN ?_ (by with_reducible assumption) ?_) | (with_reducible refine Only.trans ?_ (by with_reducible assumption)) | (refine .inl ?_; first | rfl | (simp; done) | (simp [Ar.blk]; done)) | (refine .inr ?_; first | omega | (simp; done) | (simp; omega) | exact Only.size (by with_reducible assumption) | (refine Nat.le_trans (Only.size (by with_reducible assumption)) ?_; simp; done)))⟩
        | true =>
          cases t4 : decide (1 ≤ op) with
          | false =>
            simp only [Bool.false_and, Bool.true_and]
            go_enter Try.func131, Try.ntmps131
            go_wp2_with fail
            refine (HS.out _).mono ?_
            rintro e w1 ⟨rfl, rfl⟩
            go_wp2_with fail
            go_returns
            exact ⟨rfl, by repeat' (first | (with_reducible exact Only.refl _ _) | (with_reducible assumption) | (refine Only.of_none ?_; with_reducible assumption) | (with_reducible refine Only.drewN ?_ _) | (with_reducible refine Only.drew ?_) | (with_reducible refine Only.alloc ?_ _) | (with_reducible refine Only.setCell ?_ ?_ _) | (with_reducible refine Only.then0 ?_ (by with_reducible assumption)) | (with_reducible refine Only.thenN ?_ (by with_reducible assumption) ?_) | (with_reducible refine Only.trans ?_ (by with_reducible assumption)) | (refine .inl ?_; first | rfl | (simp; done) | (simp [Ar.blk]; done)) | (refine .inr ?_; first | omega | (simp; done) | (simp; omega) | exact Only.size (by with_reducible assumption) | (refine Nat.le_trans (Only.size (by with_reducible assumption)) ?_; simp; done)))⟩
          | true =>
            cases t5 : decide (op ≤ 1000000000) with
            | false =>
              simp only [Bool.false_and, Bool.true_and]
              go_enter Try.func131, Try.ntmps131
              go_wp2_with fail
              refine (HS.out _).mono ?_
              rintro e w1 ⟨rfl, rfl⟩
              go_wp2_with fail
              go_returns
              exact ⟨rfl, by repeat' (first | (with_reducible exact Only.refl _ _) | (with_reducible assumption) | (refine Only.of_none ?_; with_reducible assumption) | (with_reducible refine Only.drewN ?_ _) | (with_reducible refine Only.drew ?_) | (with_reducible refine Only.alloc ?_ _) | (with_reducible refine Only.setCell ?_ ?_ _) | (with_reducible refine Only.then0 ?_ (by with_reducible assumption)) | (with_reducible refine Only.thenN ?_ (by with_reducible assumption) ?_) | (with_reducible refine Only.trans ?_ (by with_reducible assumption)) | (refine .inl ?_; first | rfl | (simp; done) | (simp [Ar.blk]; done)) | (refine .inr ?_; first | omega | (simp; done) | (simp; omega) | exact Only.size (by with_reducible assumption) | (refine Nat.le_trans (Only.size (by with_reducible assumption)) ?_; simp; done)))⟩
            | true =>
              cases t6 : decide (1 ≤ oq) with
              | false =>
                simp only [Bool.false_and, Bool.true_and]
                go_enter Try.func131, Try.ntmps131
                go_wp2_with fail
                refine (HS.out _).mono ?_
                rintro e w1 ⟨rfl, rfl⟩
                go_wp2_with fail
                go_returns
                exact ⟨rfl, by repeat' (first | (with_reducible exact Only.refl _ _) | (with_reducible assumption) | (refine Only.of_none ?_; with_reducible assumption) | (with_reducible refine Only.drewN ?_ _) | (with_reducible refine Only.drew ?_) | (with_reducible refine Only.alloc ?_ _) | (with_reducible refine Only.setCell ?_ ?_ _) | (with_reducible refine Only.then0 ?_ (by with_reducible assumption)) | (with_reducible refine Only.thenN ?_ (by with_reducible assumption) ?_) | (with_reducible refine Only.trans ?_ (by with_reducible assumption)) | (refine .inl ?_; first | rfl | (simp; done) | (simp [Ar.blk]; done)) | (refine .inr ?_; first | omega | (simp; done) | (simp; omega) | exact Only.size (by with_reducible assumption) | (refine Nat.le_trans (Only.size (by with_reducible assumption)) ?_; simp; done)))⟩
              | true =>
                cases t7 : decide (oq ≤ 1000000000) with
                | false =>
                  simp only [Bool.false_and, Bool.true_and]
                  go_enter Try.func131, Try.ntmps131
                  go_wp2_with fail
                  refine (HS.out _).mono ?_
                  rintro e w1 ⟨rfl, rfl⟩
                  go_wp2_with fail
                  go_returns
                  exact ⟨rfl, by repeat' (first | (with_reducible exact Only.refl _ _) | (with_reducible assumption) | (refine Only.of_none ?_; with_reducible assumption) | (with_reducible refine Only.drewN ?_ _) | (with_reducible refine Only.drew ?_) | (with_reducible refine Only.alloc ?_ _) | (with_reducible refine Only.setCell ?_ ?_ _) | (with_reducible refine Only.then0 ?_ (by with_reducible assumption)) | (with_reducible refine Only.thenN ?_ (by with_reducible assumption) ?_) | (with_reducible refine Only.trans ?_ (by with_reducible assumption)) | (refine .inl ?_; first | rfl | (simp; done) | (simp [Ar.blk]; done)) | (refine .inr ?_; first | omega | (simp; done) | (simp; omega) | exact Only.size (by with_reducible assumption) | (refine Nat.le_trans (Only.size (by with_reducible assumption)) ?_; simp; done)))⟩
                | true =>
                  go_enter Try.func131, Try.ntmps131
                  go_wp2_with fail
                  refine (HS.out _).mono ?_
                  rintro e w1 ⟨rfl, rfl⟩
                  go_wp2_with fail
                  go_returns
                  exact ⟨rfl, by repeat' (first | (with_reducible exact Only.refl _ _) | (with_reducible assumption) | (refine Only.of_none ?_; with_reducible assumption) | (with_reducible refine Only.drewN ?_ _) | (with_reducible refine Only.drew ?_) | (with_reducible refine Only.alloc ?_ _) | (with_reducible refine Only.setCell ?_ ?_ _) | (with_reducible refine Only.then0 ?_ (by with_reducible assumption)) | (with_reducible refine Only.thenN ?_ (by with_reducible assumption) ?_) | (with_reducible refine Only.trans ?_ (by with_reducible assumption)) | (refine .inl ?_; first | rfl | (simp; done) | (simp [Ar.blk]; done)) | (refine .inr ?_; first | omega | (simp; done) | (simp; omega) | exact Only.size (by with_reducible assumption) | (refine Nat.le_trans (Only.size (by with_reducible assumption)) ?_; simp; done)))⟩

/-! ### Len, Room -/
set_option maxHeartbeats 1000000 in
theorem r6_len (h : R6M w r vv most room l) (hl : (l false).length + (l true).length ≤ 1000000) :
    Calls Try.prog 97 #[.pointer (some ⟨r, 0, none⟩)] w fun e w' => e = .returned (.int .i64 ((l false).length + (l true).length : Nat)) ∧ ∃ k, w' = w.drewN k := by
  obtain ⟨a0, k0, a1, k1, e0, e1, o0, o1, h0, h1⟩ := h.parts
  have c2 := h.c2.cell
  have c3 := h.c3.cell
  rw [e0] at c2
  rw [e1] at c3
  have z0 := cell_lt c2
  generalize (l false).length = n at *
  generalize (l true).length = m at *
  have w1 : IntKind.i64.wrap ((n : Int) + (m : Int)) = ((n + m : Nat) : Int) := by rw [IntKind.wrap_i64]; omega
  clear h e0 e1 o0 o1
  go_enter Try.func97, Try.ntmps97
  go_wp2_with fail
  go_quiet (fail)
  go_wp2_with fail
  go_returns
  exact ⟨rfl, _, rfl⟩
theorem r6_room (h : R6M w r vv most room l) (hl : (l false).length + (l true).length ≤ room) (hr : room ≤ 256) :
    Calls Try.prog 98 #[.pointer (some ⟨r, 0, none⟩)] w fun e w' => e = .returned (.int .i64 ((room - ((l false).length + (l true).length) : Nat) : Int)) ∧ ∃ k, w' = w.drewN k := by
  have c0 := h.c0.cell
  have z0 := cell_lt c0
  have HL := Lib.hid fun n => r6_len (h.only ((Only.refl (fun _ => False) w).drewN n) fun _ _ => id) (by omega)
  generalize (l false).length + (l true).length = n at *
  have w1 : IntKind.i64.wrap ((room : Int) - (n : Int)) = ((room - n : Nat) : Int) := by rw [IntKind.wrap_i64]; omega
  clear h
  go_enter Try.func98, Try.ntmps98
  go_wp2_with fail
  go_quiet ((go_at_call 97; exact Calls.quiet_of (HL.out _)))
  go_wp2_with fail
  go_returns
  exact ⟨rfl, _, rfl⟩
end
end Go.Proofs.Ytilngakgofjmpaa
