/- QuotaDoes: looks. Conditions: the meters' numbers lie in their ranges. -/
import Derived.Test.YtiiflgihjnlmcaaMeter6
namespace Go.Proofs.Ytiiflgihjnlmcaa
set_option linter.unusedVariables false
set_option linter.unusedSimpArgs false
open Go.RowKit

set_option maxHeartbeats 4000000 in
set_option maxRecDepth 100000 in
theorem q_looks (bm base b gp gt k : Nat) (hv : Nat → Value) (T : Nat → List (Int × Int)) (m : Mt) (N : Nat) (w : World) (ok : MtOk m) (rok : RfOk m k T N) (hN : N ≤ 4398046511104) (hm : MtAt w bm m) (h : RfAt base w b gp gt m k hv T) :
    Calls Try.prog 35 #[.pointer (some ⟨bm, 0, none⟩), .pointer (some ⟨b, 0, none⟩)] w fun e w' => e = .returned (.bool true) ∧ Only (fun _ => False) w w' := by
  have HA := fun c W (o : Only (fun _ => False) w W) => Lib.hid (q_used bm m c W ok (hm.only o id))
  have HB := fun c W (o : Only (fun _ => False) w W) => Lib.hid (r_used base b gp gt k hv T m N c W ok rok hN (h.only o (fun _ _ => id)))
  have HC := fun W (o : Only (fun _ => False) w W) => Lib.hid (q_window bm m W ok (hm.only o id))
  have HD := fun W (o : Only (fun _ => False) w W) => Lib.hid (r_window base b gp gt k hv T m W ok (h.only o (fun _ _ => id)))
  obtain ⟨us, hus⟩ : ∃ us : Int → Int × Int, us = fun c => m.used c := ⟨_, rfl⟩
  obtain ⟨ww, hww⟩ : ∃ ww, ww = m.w := ⟨_, rfl⟩
  rw [← hww] at HC HD
  have e1 : ∀ c, m.used c = us c := fun c => by rw [hus]
  simp only [e1] at HA HB
  clear hus hww e1 ok rok hm h
  go_enter Try.func35, Try.ntmps35
  go_wp2_with fail
  go_loopw [5] (fun s wr => ∃ c : Int, -1 ≤ c ∧ c ≤ 10 ∧ s = .int .i64 c ∧ Only (fun _ => False) w wr) (fun s _ => (10 - intOf s).toNat)
  case atStart => exact ⟨-1, by omega, by omega, rfl, Only.refl _ _⟩
  case round =>
    obtain ⟨c, h1, h2, rfl, ho⟩ := hrel
    by_cases h3 : c ≤ 9
    · have t1 : decide (c ≤ 9) = true := by simpa using h3
      have w1 : IntKind.i64.wrap (c + 1) = c + 1 := by rw [IntKind.wrap_i64]; omega
      obtain ⟨p, hp⟩ : ∃ p, us c = p := ⟨_, rfl⟩
      obtain ⟨x, y⟩ := p
      have A := fun W o => HA c W o
      have B := fun W o => HB c W o
      simp only [hp] at A B
      clear HA HB HC HD hp
      have t2 : (x != x) = false := by simp
      have t3 : (y != y) = false := by simp
      go_wp2_with fail
      refine (A _ ho).out.mono ?_
      rintro e w1 ⟨rfl, o1⟩
      go_wp2_with fail
      refine (B _ (by repeat' (first | (with_reducible exact Only.refl _ _) | (with_reducible assumption) | (refine Only.of_none ?_; with_reducible assumption) | (with_reducible refine Only.drewN ?_ _) | (with_reducible refine Only.drew ?_) | (with_reducible refine Only.alloc ?_ _) | (with_reducible refine Only.setCell ?_ ?_ _) | (with_reducible refine Only.then0 ?_ (by with_reducible assumption)) | (with_reducible refine Only.thenN ?_ (by with_reducible assumption) ?_) | (with_reducible refine Only.trans ?_ (by with_reducible assumption)) | (refine .inl ?_; first | rfl | (simp; done) | (simp [Ar.blk]; done)) | (refine .inr ?_; first | omega | (simp; done) | (simp; omega) | exact Only.size (by with_reducible assumption) | (refine Nat.le_trans (Only.size (by with_reducible assumption)) ?_; simp; done))))).out.mono ?_
      rintro e w2 ⟨rfl, o2⟩
      go_wp2_with fail
      go_roundw
      case rel => exact ⟨c + 1, by omega, by omega, rfl, by repeat' (first | (with_reducible exact Only.refl _ _) | (with_reducible assumption) | (refine Only.of_none ?_; with_reducible assumption) | (with_reducible refine Only.drewN ?_ _) | (with_reducible refine Only.drew ?_) | (with_reducible refine Only.alloc ?_ _) | (with_reducible refine Only.setCell ?_ ?_ _) | (with_reducible refine Only.then0 ?_ (by with_reducible assumption)) | (with_reducible refine Only.thenN ?_ (by with_reducible assumption) ?_) | (with_reducible refine Only.trans ?_ (by with_reducible assumption)) | (refine .inl ?_; first | rfl | (simp; done) | (simp [Ar.blk]; done)) | (refine .inr ?_; first | omega | (simp; done) | (simp; omega) | exact Only.size (by with_reducible assumption) | (refine Nat.le_trans (Only.size (by with_reducible assumption)) ?_; simp; done)))⟩
      case measure => simp only [intOf]; omega
    · have t1 : decide (c ≤ 9) = false := by simpa using h3
      clear HA HB
      go_wp2_with fail
      refine (HC _ ho).out.mono ?_
      rintro e w1 ⟨rfl, nn, rfl⟩
      go_wp2_with fail
      refine (HD _ (by repeat' (first | (with_reducible exact Only.refl _ _) | (with_reducible assumption) | (refine Only.of_none ?_; with_reducible assumption) | (with_reducible refine Only.drewN ?_ _) | (with_reducible refine Only.drew ?_) | (with_reducible refine Only.alloc ?_ _) | (with_reducible refine Only.setCell ?_ ?_ _) | (with_reducible refine Only.then0 ?_ (by with_reducible assumption)) | (with_reducible refine Only.thenN ?_ (by with_reducible assumption) ?_) | (with_reducible refine Only.trans ?_ (by with_reducible assumption)) | (refine .inl ?_; first | rfl | (simp; done) | (simp [Ar.blk]; done)) | (refine .inr ?_; first | omega | (simp; done) | (simp; omega) | exact Only.size (by with_reducible assumption) | (refine Nat.le_trans (Only.size (by with_reducible assumption)) ?_; simp; done))))).out.mono ?_
      rintro e w2 ⟨rfl, o2⟩
      go_wp2_with fail
      go_returns
      exact ⟨by simp, by repeat' (first | (with_reducible exact Only.refl _ _) | (with_reducible assumption) | (refine Only.of_none ?_; with_reducible assumption) | (with_reducible refine Only.drewN ?_ _) | (with_reducible refine Only.drew ?_) | (with_reducible refine Only.alloc ?_ _) | (with_reducible refine Only.setCell ?_ ?_ _) | (with_reducible refine Only.then0 ?_ (by with_reducible assumption)) | (with_reducible refine Only.thenN ?_ (by with_reducible assumption) ?_) | (with_reducible refine Only.trans ?_ (by with_reducible assumption)) | (refine .inl ?_; first | rfl | (simp; done) | (simp [Ar.blk]; done)) | (refine .inr ?_; first | omega | (simp; done) | (simp; omega) | exact Only.size (by with_reducible assumption) | (refine Nat.le_trans (Only.size (by with_reducible assumption)) ?_; simp; done)))⟩
end Go.Proofs.Ytiiflgihjnlmcaa
