/- Package snap: trade; one feed. Conditions: the numbers are of 64 bits. -/
import Derived.Test.YtiiflgihjnlmcaaSnap3
namespace Go.Proofs.Ytiiflgihjnlmcaa
set_option linter.unusedVariables false
set_option linter.unusedSimpArgs false
open Go.RowKit
section
variable (o : Nat) (s : Sn) (k a b : Int) (w : World)

theorem trade_no (h : SnAt w o s) (hr : s.raw 3 a b = none) (W : World) (hW : Only (fun _ => False) (w.setCell ⟨o, 2, none⟩ (.int .i64 a)) W) : MPost o w (s.raw 3 a b) (.returned (.bool false)) W := by
  rw [hr]
  exact ⟨rfl, fun t ht => (by cases ht), ((Only.refl _ w).set1 o 2 (.int .i64 a)).then0 hW⟩

set_option maxHeartbeats 4000000 in
set_option maxRecDepth 100000 in
theorem s_trade (h : SnAt w o s) (hb : I64 b) (h3 : 0 ≤ s.a3 ∧ s.a3 ≤ 1000000000000000) : Calls Try.prog 100 #[.pointer (some ⟨o, 0, none⟩), .agg #[.int .u8 3, .int .i64 a, .int .i64 b]] w (MPost o w (s.raw 3 a b)) := by
  have c2 := h.c2.cell
  have f2 := h.c2.free
  have hlt := cell_lt c2
  have hraw : s.raw 3 a b = if 0 < a ∧ 0 < b ∧ b ≤ 1000000000 then some { s with a2 := a, a3 := s.a3 + b } else none := rfl
  have HN := fun hr => Lib.hid (trade_no o s a b w h hr)
  by_cases h0 : 0 < a
  · by_cases h1 : 0 < b
    · by_cases h2 : b ≤ 1000000000
      · have hP : ∀ W : World, Only (fun _ => False) ((w.setCell ⟨o, 2, none⟩ (.int .i64 a)).setCell ⟨o, 3, none⟩ (.int .i64 (s.a3 + b))) W → MPost o w (s.raw 3 a b) (.returned (.bool true)) W := fun W hW => by
          rw [hraw, if_pos ⟨h0, h1, h2⟩]
          refine ⟨rfl, fun t ht => ?_, (((Only.refl (· = o) w).setCell (p := ⟨o, 2, none⟩) (.inl rfl) _).setCell (p := ⟨o, 3, none⟩) (.inl rfl) _).then0 hW⟩
          cases ht
          exact SnAt.only ⟨(h.c0.far (off_ne (by omega)) _).far (off_ne (by omega)) _, (h.c1.far (off_ne (by omega)) _).far (off_ne (by omega)) _, (h.c2.set _).far (off_ne (by omega)) _, (h.c3.far (off_ne (by omega)) _).set _, (h.c4.far (off_ne (by omega)) _).far (off_ne (by omega)) _, (h.c5.far (off_ne (by omega)) _).far (off_ne (by omega)) _⟩ hW id
        have HP := Lib.hid hP
        have HM := fun W (hW : Only (fun _ => False) (w.setCell ⟨o, 2, none⟩ (.int .i64 a)) W) => Lib.hid (s_more o 3 s.a3 b (by unfold I64; omega) hb (by unfold I64 at *; omega) W ((h.c3.far (off_ne (by omega)) _).only hW id))
        have t0 : decide (0 < a) = true := by simpa using h0
        have t1 : decide (0 < b) = true := by simpa using h1
        have t2 : decide (b ≤ 1000000000) = true := by simpa using h2
        generalize MPost o w (s.raw 3 a b) = R at *
        clear h hP HN hraw h0 h1 h2
        go_enter Try.func100, Try.ntmps100
        go_wp2_with fail
        go_region_with (first | (go_at_call 135; refine (HM _ (by repeat' (first | (with_reducible exact Only.refl _ _) | (with_reducible assumption) | (refine Only.of_none ?_; with_reducible assumption) | (with_reducible refine Only.drewN ?_ _) | (with_reducible refine Only.drew ?_) | (with_reducible refine Only.alloc ?_ _) | (with_reducible refine Only.setCell ?_ ?_ _) | (with_reducible refine Only.then0 ?_ (by with_reducible assumption)) | (with_reducible refine Only.thenN ?_ (by with_reducible assumption) ?_) | (with_reducible refine Only.trans ?_ (by with_reducible assumption)) | (refine .inl ?_; first | rfl | (simp; done) | (simp [Ar.blk]; done)) | (refine .inr ?_; first | omega | (simp; done) | (simp; omega) | exact Only.size (by with_reducible assumption) | (refine Nat.le_trans (Only.size (by with_reducible assumption)) ?_; simp; done))))).out.mono ?_; rintro e w' ⟨rfl, rfl⟩))
        all_goals
          go_wp2_with fail
          go_returns
          refine HP.out _ ?_
          repeat' (first | (with_reducible exact Only.refl _ _) | (with_reducible assumption) | (refine Only.of_none ?_; with_reducible assumption) | (with_reducible refine Only.drewN ?_ _) | (with_reducible refine Only.drew ?_) | (with_reducible refine Only.alloc ?_ _) | (with_reducible refine Only.setCell ?_ ?_ _) | (with_reducible refine Only.then0 ?_ (by with_reducible assumption)) | (with_reducible refine Only.thenN ?_ (by with_reducible assumption) ?_) | (with_reducible refine Only.trans ?_ (by with_reducible assumption)) | (refine .inl ?_; first | rfl | (simp; done) | (simp [Ar.blk]; done)) | (refine .inr ?_; first | omega | (simp; done) | (simp; omega) | exact Only.size (by with_reducible assumption) | (refine Nat.le_trans (Only.size (by with_reducible assumption)) ?_; simp; done)))
      · have HP := Lib.hid ((HN (by rw [hraw, if_neg (fun hh => h2 hh.2.2)])).out)
        have t0 : decide (0 < a) = true := by simpa using h0
        have t1 : decide (0 < b) = true := by simpa using h1
        have t2 : decide (b ≤ 1000000000) = false := by simpa using h2
        generalize MPost o w (s.raw 3 a b) = R at *
        clear h HN hraw h0 h1 h2
        go_enter Try.func100, Try.ntmps100
        go_wp2_with fail
        go_quiet (fail)
        go_wp2_with fail
        refine HP.out _ ?_
        repeat' (first | (with_reducible exact Only.refl _ _) | (with_reducible assumption) | (refine Only.of_none ?_; with_reducible assumption) | (with_reducible refine Only.drewN ?_ _) | (with_reducible refine Only.drew ?_) | (with_reducible refine Only.alloc ?_ _) | (with_reducible refine Only.setCell ?_ ?_ _) | (with_reducible refine Only.then0 ?_ (by with_reducible assumption)) | (with_reducible refine Only.thenN ?_ (by with_reducible assumption) ?_) | (with_reducible refine Only.trans ?_ (by with_reducible assumption)) | (refine .inl ?_; first | rfl | (simp; done) | (simp [Ar.blk]; done)) | (refine .inr ?_; first | omega | (simp; done) | (simp; omega) | exact Only.size (by with_reducible assumption) | (refine Nat.le_trans (Only.size (by with_reducible assumption)) ?_; simp; done)))
    · have HP := Lib.hid ((HN (by rw [hraw, if_neg (fun hh => h1 hh.2.1)])).out)
      have t0 : decide (0 < a) = true := by simpa using h0
      have t1 : decide (0 < b) = false := by simpa using h1
      generalize MPost o w (s.raw 3 a b) = R at *
      clear h HN hraw h0 h1
      go_enter Try.func100, Try.ntmps100
      go_wp2_with fail
      go_quiet (fail)
      go_wp2_with fail
      refine HP.out _ ?_
      repeat' (first | (with_reducible exact Only.refl _ _) | (with_reducible assumption) | (refine Only.of_none ?_; with_reducible assumption) | (with_reducible refine Only.drewN ?_ _) | (with_reducible refine Only.drew ?_) | (with_reducible refine Only.alloc ?_ _) | (with_reducible refine Only.setCell ?_ ?_ _) | (with_reducible refine Only.then0 ?_ (by with_reducible assumption)) | (with_reducible refine Only.thenN ?_ (by with_reducible assumption) ?_) | (with_reducible refine Only.trans ?_ (by with_reducible assumption)) | (refine .inl ?_; first | rfl | (simp; done) | (simp [Ar.blk]; done)) | (refine .inr ?_; first | omega | (simp; done) | (simp; omega) | exact Only.size (by with_reducible assumption) | (refine Nat.le_trans (Only.size (by with_reducible assumption)) ?_; simp; done)))
  · have HP := Lib.hid ((HN (by rw [hraw, if_neg (fun hh => h0 hh.1)])).out)
    have t0 : decide (0 < a) = false := by simpa using h0
    generalize MPost o w (s.raw 3 a b) = R at *
    clear h HN hraw h0
    go_enter Try.func100, Try.ntmps100
    go_wp2_with fail
    go_quiet (fail)
    go_wp2_with fail
    refine HP.out _ ?_
    repeat' (first | (with_reducible exact Only.refl _ _) | (with_reducible assumption) | (refine Only.of_none ?_; with_reducible assumption) | (with_reducible refine Only.drewN ?_ _) | (with_reducible refine Only.drew ?_) | (with_reducible refine Only.alloc ?_ _) | (with_reducible refine Only.setCell ?_ ?_ _) | (with_reducible refine Only.then0 ?_ (by with_reducible assumption)) | (with_reducible refine Only.thenN ?_ (by with_reducible assumption) ?_) | (with_reducible refine Only.trans ?_ (by with_reducible assumption)) | (refine .inl ?_; first | rfl | (simp; done) | (simp [Ar.blk]; done)) | (refine .inr ?_; first | omega | (simp; done) | (simp; omega) | exact Only.size (by with_reducible assumption) | (refine Nat.le_trans (Only.size (by with_reducible assumption)) ?_; simp; done)))
end
end Go.Proofs.Ytiiflgihjnlmcaa
