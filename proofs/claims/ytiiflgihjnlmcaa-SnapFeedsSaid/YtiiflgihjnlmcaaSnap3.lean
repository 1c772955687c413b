/- Package snap: a snapshot that changes. Conditions: the numbers are of 64 bits. -/
import Derived.Test.YtiiflgihjnlmcaaSnap2
import Derived.Deep.RegionWith
namespace Go.Proofs.Ytiiflgihjnlmcaa
set_option linter.unusedVariables false
set_option linter.unusedSimpArgs false
open Go.RowKit

structure Sn where
  a0 : Int
  a1 : Int
  a2 : Int
  a3 : Int
  a4 : Int
  a5 : Int
deriving DecidableEq
def Sn.ok (s : Sn) : Bool := snOk s.a0 s.a1 s.a2 s.a3 s.a4 s.a5
def Sn.v (s : Sn) : Value := .agg #[.int .i64 s.a0, .int .i64 s.a1, .int .i64 s.a2, .int .i64 s.a3, .int .i64 s.a4, .int .i64 s.a5]
/-- A snapshot lies there, and may be written. -/
structure SnAt (w : World) (o : Nat) (s : Sn) : Prop where
  c0 : Cell w o 0 (.int .i64 s.a0)
  c1 : Cell w o 1 (.int .i64 s.a1)
  c2 : Cell w o 2 (.int .i64 s.a2)
  c3 : Cell w o 3 (.int .i64 s.a3)
  c4 : Cell w o 4 (.int .i64 s.a4)
  c5 : Cell w o 5 (.int .i64 s.a5)
theorem SnAt.only {w w' : World} {o : Nat} {s : Sn} {S : Nat → Prop} (h : SnAt w o s) (k : Only S w w') (hb : ¬ S o) : SnAt w' o s :=
  ⟨h.c0.only k hb, h.c1.only k hb, h.c2.only k hb, h.c3.only k hb, h.c4.only k hb, h.c5.only k hb⟩

/-- A 64-bit number. -/
def I64 (x : Int) : Prop := -9223372036854775808 ≤ x ∧ x ≤ 9223372036854775807
instance (x : Int) : Decidable (I64 x) := by unfold I64; infer_instance
theorem Only.set1 {w W : World} (h : Only (fun _ => False) w W) (o k : Nat) (v : Value) : Only (· = o) w (W.setCell ⟨o, k, none⟩ v) := (Only.of_none (S := (· = o)) h).setCell (p := ⟨o, k, none⟩) (.inl rfl) v

theorem s_told_yes (n : Int) (w : World) : Calls Try.prog 141 #[.int .i64 n, .bool true] w fun e w' => e = .returned (.tuple #[.int .i64 n, .bool true]) ∧ w = w' := by
  go_enter Try.func141, Try.ntmps141
  go_wp2
  go_returns
  exact ⟨rfl, rfl⟩
theorem s_told_no (n : Int) (w : World) : Calls Try.prog 141 #[.int .i64 n, .bool false] w fun e w' => e = .returned (.tuple #[.int .i64 0, .bool false]) ∧ w = w' := by
  go_enter Try.func141, Try.ntmps141
  go_wp2
  go_returns
  exact ⟨rfl, rfl⟩

set_option maxHeartbeats 1000000 in
theorem s_add (a b : Int) (ha : I64 a) (hb : I64 b) (hs : I64 (a + b)) (w : World) :
    Calls Try.prog 140 #[.int .i64 a, .int .i64 b] w fun e w' => e = .returned (.tuple #[.int .i64 (a + b), .bool true]) ∧ w = w' := by
  unfold I64 at *
  have w1 : IntKind.i64.wrap (a + b) = a + b := by rw [IntKind.wrap_i64]; omega
  have t1 : (decide (a < a + b) == decide (0 < b)) = true := by
    by_cases h : 0 < b
    · rw [decide_eq_true h, decide_eq_true (by omega)]; rfl
    · rw [decide_eq_false h, decide_eq_false (by omega)]; rfl
  obtain ⟨s, hs2⟩ : ∃ s, a + b = s := ⟨_, rfl⟩
  rw [hs2] at w1 t1 ⊢
  clear ha hb hs
  have w2 : IntKind.i64.wrap (a + b) = s := by rw [hs2]; exact w1
  clear w1 hs2
  go_enter Try.func140, Try.ntmps140
  go_wp2_with fail
  refine (s_told_yes _ _).mono ?_
  rintro e w' ⟨rfl, rfl⟩
  go_wp2
  go_returns
  exact ⟨rfl, rfl⟩

set_option maxHeartbeats 1000000 in
theorem s_add_no (a b : Int) (ha : I64 a) (hb : I64 b) (hs : ¬ I64 (a + b)) (w : World) :
    Calls Try.prog 140 #[.int .i64 a, .int .i64 b] w fun e w' => e = .returned (.tuple #[.int .i64 0, .bool false]) ∧ w = w' := by
  unfold I64 at *
  obtain ⟨s, w2⟩ : ∃ s, IntKind.i64.wrap (a + b) = s := ⟨_, rfl⟩
  have t1 : (decide (a < s) == decide (0 < b)) = false := by
    rw [IntKind.wrap_i64] at w2
    by_cases h : 0 < b
    · rw [decide_eq_true h, decide_eq_false (by omega)]; rfl
    · rw [decide_eq_false h, decide_eq_true (by omega)]; rfl
  clear ha hb hs
  go_enter Try.func140, Try.ntmps140
  go_wp2_with fail
  refine (s_told_no _ _).mono ?_
  rintro e w' ⟨rfl, rfl⟩
  go_wp2
  go_returns
  exact ⟨rfl, rfl⟩

set_option maxHeartbeats 1000000 in
theorem s_more (o k : Nat) (a b : Int) (ha : I64 a) (hb : I64 b) (hs : I64 (a + b)) (w : World) (hc : Cell w o k (.int .i64 a)) :
    Calls Try.prog 135 #[.pointer (some ⟨o, k, none⟩), .int .i64 b] w fun e w' => e = .returned (.bool true) ∧ w' = w.setCell ⟨o, k, none⟩ (.int .i64 (a + b)) := by
  have HA := fun W => Lib.hid (s_add a b ha hb hs W)
  have c := hc.cell
  have f := hc.free
  clear ha hb hs hc
  go_enter Try.func135, Try.ntmps135
  go_wp2_with fail
  refine (HA _).out.mono ?_
  rintro e w' ⟨rfl, rfl⟩
  clear HA
  go_wp2_with fail
  go_returns
  exact ⟨rfl, rfl⟩

set_option maxHeartbeats 1000000 in
theorem s_more_no (o k : Nat) (a b : Int) (ha : I64 a) (hb : I64 b) (hs : ¬ I64 (a + b)) (w : World) (hc : Cell w o k (.int .i64 a)) :
    Calls Try.prog 135 #[.pointer (some ⟨o, k, none⟩), .int .i64 b] w fun e w' => e = .returned (.bool false) ∧ w' = w.setCell ⟨o, k, none⟩ (.int .i64 0) := by
  have HA := fun W => Lib.hid (s_add_no a b ha hb hs W)
  have c := hc.cell
  have f := hc.free
  clear ha hb hs hc
  go_enter Try.func135, Try.ntmps135
  go_wp2_with fail
  refine (HA _).out.mono ?_
  rintro e w' ⟨rfl, rfl⟩
  clear HA
  go_wp2_with fail
  go_returns
  exact ⟨rfl, rfl⟩

/-- What a feed's method does to a snapshot: what it leaves, if it may. -/
def Sn.raw (s : Sn) (k a b : Int) : Option Sn :=
  if k = 1 then some { s with a0 := a }
  else if k = 2 then some { s with a1 := a }
  else if k = 3 then (if 0 < a ∧ 0 < b ∧ b ≤ 1000000000 then some { s with a2 := a, a3 := s.a3 + b } else none)
  else if k = 4 then (if s.a4 ≤ a then some { s with a4 := a } else none)
  else if k = 5 then (if I64 (s.a5 + a) then some { s with a5 := s.a5 + a } else none)
  else none
/-- A method's answer. -/
def MPost (o : Nat) (w : World) (r : Option Sn) (e : Ending) (w' : World) : Prop := e = .returned (.bool r.isSome) ∧ (∀ t, r = some t → SnAt w' o t) ∧ Only (· = o) w w'

section
variable (o : Nat) (s : Sn) (k a b : Int) (w : World)

set_option maxHeartbeats 1000000 in
theorem s_bid (h : SnAt w o s) : Calls Try.prog 98 #[.pointer (some ⟨o, 0, none⟩), .agg #[.int .u8 1, .int .i64 a, .int .i64 b]] w (MPost o w (s.raw 1 a b)) := by
  have hP : ∀ W : World, Only (fun _ => False) w W → MPost o w (s.raw 1 a b) (.returned (.bool true)) (W.setCell ⟨o, 0, none⟩ (.int .i64 a)) := fun W hW => by
    have g := h.only hW id
    refine ⟨rfl, fun t ht => ?_, hW.set1 _ _ _⟩
    cases ht
    exact ⟨g.c0.set _, g.c1.far (off_ne (by omega)) _, g.c2.far (off_ne (by omega)) _, g.c3.far (off_ne (by omega)) _, g.c4.far (off_ne (by omega)) _, g.c5.far (off_ne (by omega)) _⟩
  have HP := Lib.hid (fun W (hW : Only (fun _ => False) (w.setCell ⟨o, 0, none⟩ (.int .i64 a)) W) => show MPost o w (s.raw 1 a b) (.returned (.bool true)) W from ⟨rfl, fun t ht => ((hP w (Only.refl _ _)).2.1 t ht).only hW id, ((hP w (Only.refl _ _)).2.2).then0 hW⟩)
  have c := h.c0.cell
  have f := h.c0.free
  have hlt := cell_lt c
  generalize MPost o w (s.raw 1 a b) = R at *
  clear h hP
  go_enter Try.func98, Try.ntmps98
  go_wp2_with fail
  exact HP.out _ (by repeat' (first | (with_reducible exact Only.refl _ _) | (with_reducible assumption) | (refine Only.of_none ?_; with_reducible assumption) | (with_reducible refine Only.drewN ?_ _) | (with_reducible refine Only.drew ?_) | (with_reducible refine Only.alloc ?_ _) | (with_reducible refine Only.setCell ?_ ?_ _) | (with_reducible refine Only.then0 ?_ (by with_reducible assumption)) | (with_reducible refine Only.thenN ?_ (by with_reducible assumption) ?_) | (with_reducible refine Only.trans ?_ (by with_reducible assumption)) | (refine .inl ?_; first | rfl | (simp; done) | (simp [Ar.blk]; done)) | (refine .inr ?_; first | omega | (simp; done) | (simp; omega) | exact Only.size (by with_reducible assumption) | (refine Nat.le_trans (Only.size (by with_reducible assumption)) ?_; simp; done))))

set_option maxHeartbeats 1000000 in
theorem s_ask (h : SnAt w o s) : Calls Try.prog 99 #[.pointer (some ⟨o, 0, none⟩), .agg #[.int .u8 2, .int .i64 a, .int .i64 b]] w (MPost o w (s.raw 2 a b)) := by
  have hP : ∀ W : World, Only (fun _ => False) w W → MPost o w (s.raw 2 a b) (.returned (.bool true)) (W.setCell ⟨o, 1, none⟩ (.int .i64 a)) := fun W hW => by
    have g := h.only hW id
    refine ⟨rfl, fun t ht => ?_, hW.set1 _ _ _⟩
    cases ht
    exact ⟨g.c0.far (off_ne (by omega)) _, g.c1.set _, g.c2.far (off_ne (by omega)) _, g.c3.far (off_ne (by omega)) _, g.c4.far (off_ne (by omega)) _, g.c5.far (off_ne (by omega)) _⟩
  have HP := Lib.hid (fun W (hW : Only (fun _ => False) (w.setCell ⟨o, 1, none⟩ (.int .i64 a)) W) => show MPost o w (s.raw 2 a b) (.returned (.bool true)) W from ⟨rfl, fun t ht => ((hP w (Only.refl _ _)).2.1 t ht).only hW id, ((hP w (Only.refl _ _)).2.2).then0 hW⟩)
  have c := h.c1.cell
  have f := h.c1.free
  have hlt := cell_lt c
  generalize MPost o w (s.raw 2 a b) = R at *
  clear h hP
  go_enter Try.func99, Try.ntmps99
  go_wp2_with fail
  exact HP.out _ (by repeat' (first | (with_reducible exact Only.refl _ _) | (with_reducible assumption) | (refine Only.of_none ?_; with_reducible assumption) | (with_reducible refine Only.drewN ?_ _) | (with_reducible refine Only.drew ?_) | (with_reducible refine Only.alloc ?_ _) | (with_reducible refine Only.setCell ?_ ?_ _) | (with_reducible refine Only.then0 ?_ (by with_reducible assumption)) | (with_reducible refine Only.thenN ?_ (by with_reducible assumption) ?_) | (with_reducible refine Only.trans ?_ (by with_reducible assumption)) | (refine .inl ?_; first | rfl | (simp; done) | (simp [Ar.blk]; done)) | (refine .inr ?_; first | omega | (simp; done) | (simp; omega) | exact Only.size (by with_reducible assumption) | (refine Nat.le_trans (Only.size (by with_reducible assumption)) ?_; simp; done))))

set_option maxHeartbeats 1000000 in
theorem s_time (h : SnAt w o s) : Calls Try.prog 101 #[.pointer (some ⟨o, 0, none⟩), .agg #[.int .u8 4, .int .i64 a, .int .i64 b]] w (MPost o w (s.raw 4 a b)) := by
  have c := h.c4.cell
  have f := h.c4.free
  have hlt := cell_lt c
  by_cases h1 : s.a4 ≤ a
  · have hP : ∀ W : World, Only (fun _ => False) w W → MPost o w (s.raw 4 a b) (.returned (.bool true)) (W.setCell ⟨o, 4, none⟩ (.int .i64 a)) := fun W hW => by
      have g := h.only hW id
      have e : s.raw 4 a b = some { s with a4 := a } := by show (if s.a4 ≤ a then _ else none) = _; rw [if_pos h1]
      rw [e]
      refine ⟨rfl, fun t ht => ?_, hW.set1 _ _ _⟩
      cases ht
      exact ⟨g.c0.far (off_ne (by omega)) _, g.c1.far (off_ne (by omega)) _, g.c2.far (off_ne (by omega)) _, g.c3.far (off_ne (by omega)) _, g.c4.set _, g.c5.far (off_ne (by omega)) _⟩
    have HP := Lib.hid hP
    have t1 : decide (s.a4 ≤ a) = true := by simpa using h1
    generalize MPost o w (s.raw 4 a b) = R at *
    generalize s.a4 = n at *
    clear h hP h1
    go_enter Try.func101, Try.ntmps101
    go_wp2_with fail
    go_quiet (fail)
    go_wp2_with fail
    exact HP.out _ (by repeat' (first | (with_reducible exact Only.refl _ _) | (with_reducible assumption) | (refine Only.of_none ?_; with_reducible assumption) | (with_reducible refine Only.drewN ?_ _) | (with_reducible refine Only.drew ?_) | (with_reducible refine Only.alloc ?_ _) | (with_reducible refine Only.setCell ?_ ?_ _) | (with_reducible refine Only.then0 ?_ (by with_reducible assumption)) | (with_reducible refine Only.thenN ?_ (by with_reducible assumption) ?_) | (with_reducible refine Only.trans ?_ (by with_reducible assumption)) | (refine .inl ?_; first | rfl | (simp; done) | (simp [Ar.blk]; done)) | (refine .inr ?_; first | omega | (simp; done) | (simp; omega) | exact Only.size (by with_reducible assumption) | (refine Nat.le_trans (Only.size (by with_reducible assumption)) ?_; simp; done))))
  · have hP : ∀ W : World, Only (fun _ => False) w W → MPost o w (s.raw 4 a b) (.returned (.bool false)) (W.setCell ⟨o, 4, none⟩ (.int .i64 a)) := fun W hW => by
      have e : s.raw 4 a b = none := by show (if s.a4 ≤ a then _ else none) = _; rw [if_neg h1]
      rw [e]
      exact ⟨rfl, fun t ht => (by cases ht), hW.set1 _ _ _⟩
    have HP := Lib.hid hP
    have t1 : decide (s.a4 ≤ a) = false := by simpa using h1
    generalize MPost o w (s.raw 4 a b) = R at *
    generalize s.a4 = n at *
    clear h hP h1
    go_enter Try.func101, Try.ntmps101
    go_wp2_with fail
    go_quiet (fail)
    go_wp2_with fail
    exact HP.out _ (by repeat' (first | (with_reducible exact Only.refl _ _) | (with_reducible assumption) | (refine Only.of_none ?_; with_reducible assumption) | (with_reducible refine Only.drewN ?_ _) | (with_reducible refine Only.drew ?_) | (with_reducible refine Only.alloc ?_ _) | (with_reducible refine Only.setCell ?_ ?_ _) | (with_reducible refine Only.then0 ?_ (by with_reducible assumption)) | (with_reducible refine Only.thenN ?_ (by with_reducible assumption) ?_) | (with_reducible refine Only.trans ?_ (by with_reducible assumption)) | (refine .inl ?_; first | rfl | (simp; done) | (simp [Ar.blk]; done)) | (refine .inr ?_; first | omega | (simp; done) | (simp; omega) | exact Only.size (by with_reducible assumption) | (refine Nat.le_trans (Only.size (by with_reducible assumption)) ?_; simp; done))))

set_option maxHeartbeats 1000000 in
theorem s_open (h : SnAt w o s) (ha : I64 a) (hs : I64 s.a5) : Calls Try.prog 102 #[.pointer (some ⟨o, 0, none⟩), .agg #[.int .u8 5, .int .i64 a, .int .i64 b]] w (MPost o w (s.raw 5 a b)) := by
  have c := h.c5.cell
  have f := h.c5.free
  have hlt := cell_lt c
  by_cases h1 : I64 (s.a5 + a)
  · have hP : ∀ W : World, Only (fun _ => False) w W → MPost o w (s.raw 5 a b) (.returned (.bool true)) (W.setCell ⟨o, 5, none⟩ (.int .i64 (s.a5 + a))) := fun W hW => by
      have g := h.only hW id
      have e : s.raw 5 a b = some { s with a5 := s.a5 + a } := by show (if I64 (s.a5 + a) then _ else none) = _; rw [if_pos h1]
      rw [e]
      refine ⟨rfl, fun t ht => ?_, hW.set1 _ _ _⟩
      cases ht
      exact ⟨g.c0.far (off_ne (by omega)) _, g.c1.far (off_ne (by omega)) _, g.c2.far (off_ne (by omega)) _, g.c3.far (off_ne (by omega)) _, g.c4.far (off_ne (by omega)) _, g.c5.set _⟩
    have HP := Lib.hid (fun W (hW : Only (fun _ => False) (w.setCell ⟨o, 5, none⟩ (.int .i64 (s.a5 + a))) W) => show MPost o w (s.raw 5 a b) (.returned (.bool true)) W from ⟨(hP w (Only.refl _ _)).1, fun t ht => ((hP w (Only.refl _ _)).2.1 t ht).only hW id, ((hP w (Only.refl _ _)).2.2).then0 hW⟩)
    have HM := fun W (hW : Only (fun _ => False) w W) => Lib.hid (s_more o 5 s.a5 a hs ha h1 W ((h.only hW id).c5))
    generalize MPost o w (s.raw 5 a b) = R at *
    clear h hP h1
    go_enter Try.func102, Try.ntmps102
    go_wp2_with fail
    go_region_with (first | (go_at_call 135; refine (HM _ (by repeat' (first | (with_reducible exact Only.refl _ _) | (with_reducible assumption) | (refine Only.of_none ?_; with_reducible assumption) | (with_reducible refine Only.drewN ?_ _) | (with_reducible refine Only.drew ?_) | (with_reducible refine Only.alloc ?_ _) | (with_reducible refine Only.setCell ?_ ?_ _) | (with_reducible refine Only.then0 ?_ (by with_reducible assumption)) | (with_reducible refine Only.thenN ?_ (by with_reducible assumption) ?_) | (with_reducible refine Only.trans ?_ (by with_reducible assumption)) | (refine .inl ?_; first | rfl | (simp; done) | (simp [Ar.blk]; done)) | (refine .inr ?_; first | omega | (simp; done) | (simp; omega) | exact Only.size (by with_reducible assumption) | (refine Nat.le_trans (Only.size (by with_reducible assumption)) ?_; simp; done))))).out.mono ?_; rintro e w' ⟨rfl, rfl⟩))
    all_goals
      go_wp2_with fail
      go_returns
      refine HP.out _ ?_
      repeat' (first | (with_reducible exact Only.refl _ _) | (with_reducible assumption) | (refine Only.of_none ?_; with_reducible assumption) | (with_reducible refine Only.drewN ?_ _) | (with_reducible refine Only.drew ?_) | (with_reducible refine Only.alloc ?_ _) | (with_reducible refine Only.setCell ?_ ?_ _) | (with_reducible refine Only.then0 ?_ (by with_reducible assumption)) | (with_reducible refine Only.thenN ?_ (by with_reducible assumption) ?_) | (with_reducible refine Only.trans ?_ (by with_reducible assumption)) | (refine .inl ?_; first | rfl | (simp; done) | (simp [Ar.blk]; done)) | (refine .inr ?_; first | omega | (simp; done) | (simp; omega) | exact Only.size (by with_reducible assumption) | (refine Nat.le_trans (Only.size (by with_reducible assumption)) ?_; simp; done)))
  · have hP : ∀ W : World, Only (fun _ => False) w W → MPost o w (s.raw 5 a b) (.returned (.bool false)) (W.setCell ⟨o, 5, none⟩ (.int .i64 0)) := fun W hW => by
      have e : s.raw 5 a b = none := by show (if I64 (s.a5 + a) then _ else none) = _; rw [if_neg h1]
      rw [e]
      exact ⟨rfl, fun t ht => (by cases ht), hW.set1 _ _ _⟩
    have HP := Lib.hid (fun W (hW : Only (fun _ => False) (w.setCell ⟨o, 5, none⟩ (.int .i64 0)) W) => show MPost o w (s.raw 5 a b) (.returned (.bool false)) W from ⟨(hP w (Only.refl _ _)).1, fun t ht => ((hP w (Only.refl _ _)).2.1 t ht).only hW id, ((hP w (Only.refl _ _)).2.2).then0 hW⟩)
    have HM := fun W (hW : Only (fun _ => False) w W) => Lib.hid (s_more_no o 5 s.a5 a hs ha h1 W ((h.only hW id).c5))
    generalize MPost o w (s.raw 5 a b) = R at *
    clear h hP h1
    go_enter Try.func102, Try.ntmps102
    go_wp2_with fail
    go_region_with (first | (go_at_call 135; refine (HM _ (by repeat' (first | (with_reducible exact Only.refl _ _) | (with_reducible assumption) | (refine Only.of_none ?_; with_reducible assumption) | (with_reducible refine Only.drewN ?_ _) | (with_reducible refine Only.drew ?_) | (with_reducible refine Only.alloc ?_ _) | (with_reducible refine Only.setCell ?_ ?_ _) | (with_reducible refine Only.then0 ?_ (by with_reducible assumption)) | (with_reducible refine Only.thenN ?_ (by with_reducible assumption) ?_) | (with_reducible refine Only.trans ?_ (by with_reducible assumption)) | (refine .inl ?_; first | rfl | (simp; done) | (simp [Ar.blk]; done)) | (refine .inr ?_; first | omega | (simp; done) | (simp; omega) | exact Only.size (by with_reducible assumption) | (refine Nat.le_trans (Only.size (by with_reducible assumption)) ?_; simp; done))))).out.mono ?_; rintro e w' ⟨rfl, rfl⟩))
    all_goals
      go_wp2_with fail
      go_returns
      refine HP.out _ ?_
      repeat' (first | (with_reducible exact Only.refl _ _) | (with_reducible assumption) | (refine Only.of_none ?_; with_reducible assumption) | (with_reducible refine Only.drewN ?_ _) | (with_reducible refine Only.drew ?_) | (with_reducible refine Only.alloc ?_ _) | (with_reducible refine Only.setCell ?_ ?_ _) | (with_reducible refine Only.then0 ?_ (by with_reducible assumption)) | (with_reducible refine Only.thenN ?_ (by with_reducible assumption) ?_) | (with_reducible refine Only.trans ?_ (by with_reducible assumption)) | (refine .inl ?_; first | rfl | (simp; done) | (simp [Ar.blk]; done)) | (refine .inr ?_; first | omega | (simp; done) | (simp; omega) | exact Only.size (by with_reducible assumption) | (refine Nat.le_trans (Only.size (by with_reducible assumption)) ?_; simp; done)))
end
end Go.Proofs.Ytiiflgihjnlmcaa
