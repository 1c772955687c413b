/- The example of quota's chapter, walked by the contracts. No condition. -/
import Derived.Test.YtiiflgihjnlmcaaQuota3
namespace Go.Proofs.Ytiiflgihjnlmcaa
set_option linter.unusedVariables false
set_option linter.unusedSimpArgs false
open Go.RowKit

set_option maxHeartbeats 400000 in
theorem q_plain (w : World) : Calls Try.prog 26 #[] w fun e w' => e = .returned (.agg #[.int .i64 2, .int .i64 0, .int .i64 0, .int .i64 0, .int .i64 0, .int .i64 0, .int .i64 0, .int .i64 0, .int .i64 0, .int .i64 0, .int .i64 0, .int .i64 1, .int .i64 0, .int .i64 3, .int .i64 10]) ∧ Only (fun _ => False) w w' := by
  go_enter Try.func26, Try.ntmps26
  go_wp2
  go_returns
  exact ⟨rfl, by repeat' (first | (with_reducible exact Only.refl _ _) | (with_reducible assumption) | (refine Only.of_none ?_; with_reducible assumption) | (with_reducible refine Only.drewN ?_ _) | (with_reducible refine Only.drew ?_) | (with_reducible refine Only.alloc ?_ _) | (with_reducible refine Only.setCell ?_ ?_ _) | (with_reducible refine Only.then0 ?_ (by with_reducible assumption)) | (with_reducible refine Only.thenN ?_ (by with_reducible assumption) ?_) | (with_reducible refine Only.trans ?_ (by with_reducible assumption)) | (refine .inl ?_; first | rfl | (simp; done) | (simp [Ar.blk]; done)) | (refine .inr ?_; first | omega | (simp; done) | (simp; omega) | exact Only.size (by with_reducible assumption) | (refine Nat.le_trans (Only.size (by with_reducible assumption)) ?_; simp; done)))⟩

def mx0 : Mt := Mt.init 2 1 3 10
def mx1 : Mt := (mx0.acts 1 2).2
def mx3 : Mt := (mx1.acts 1 1).2
def mx4 : Mt := (mx3.plan 1).2
def mx5 : Mt := (mx4.tick 10).2

set_option maxHeartbeats 1000000 in
theorem q_works (w : World) : Calls Try.prog 23 #[] w fun e w' => e = .returned (.bool true) ∧ Only (fun _ => False) w w' := by
  have k0 : MtOk mx0 := MtOk.init (by decide) (by decide) (by decide) (by decide)
  have k1 : MtOk mx1 := k0.acts 1 2
  have k3 : MtOk mx3 := k1.acts 1 1
  have k4 : MtOk mx4 := k3.plan 1
  have k5 : MtOk mx5 := k4.tick 10
  have a1 : mx0.acts 1 2 = (0, mx1) := Prod.ext (by decide +kernel) rfl
  have a2 : mx1.acts 1 2 = (220, mx1) := by unfold Mt.acts; rw [if_neg (by decide +kernel), if_pos (by decide +kernel)]
  have a3 : mx1.acts 1 1 = (0, mx3) := Prod.ext (by decide +kernel) rfl
  have a4 : mx3.plan 1 = (0, mx4) := Prod.ext (by decide +kernel) rfl
  have a5 : mx4.plan 1 = (222, mx4) := by unfold Mt.plan; rw [if_neg (by decide +kernel), if_pos (by decide +kernel)]
  have a6 : mx4.used 1 = (1, 3) := by decide +kernel
  have a7 : mx4.tick 10 = (0, mx5) := Prod.ext (by decide +kernel) rfl
  have a8 : mx5.used 1 = (1, 0) := by decide +kernel
  have a9 : mx5.w = 1 := by decide +kernel
  have a10 : mx5.tick 9 = (223, mx5) := by unfold Mt.tick; rw [if_pos (by decide +kernel)]
  have a11 : (mx5.drop 1).1 = 0 := by decide +kernel
  have s1 := fun g w (h : MtAt w g mx0) => Lib.hid (q_acts g mx0 1 2 w k0 h (by decide) (by decide))
  have s2 := fun g w (h : MtAt w g mx1) => Lib.hid (q_acts g mx1 1 2 w k1 h (by decide) (by decide))
  have s3 := fun g w (h : MtAt w g mx1) => Lib.hid (q_acts g mx1 1 1 w k1 h (by decide) (by decide))
  have s4 := fun g w (h : MtAt w g mx3) => Lib.hid (q_plan g mx3 1 w k3 h)
  have s5 := fun g w (h : MtAt w g mx4) => Lib.hid (q_plan g mx4 1 w k4 h)
  have s6 := fun g w (h : MtAt w g mx4) => Lib.hid (q_used g mx4 1 w k4 h)
  have s7 := fun g w (h : MtAt w g mx4) => Lib.hid (q_tick g mx4 10 w h)
  have s8 := fun g w (h : MtAt w g mx5) => Lib.hid (q_used g mx5 1 w k5 h)
  have s9 := fun g w (h : MtAt w g mx5) => Lib.hid (q_window g mx5 w k5 h)
  have s10 := fun g w (h : MtAt w g mx5) => Lib.hid (q_tick g mx5 9 w h)
  have s11 := fun g w (h : MtAt w g mx5) => Lib.hid (q_drop g mx5 1 w k5 h)
  unfold MtStep at s1 s2 s3 s4 s5 s7 s10 s11
  rw [a1] at s1
  rw [a2] at s2
  rw [a3] at s3
  rw [a4] at s4
  rw [a5] at s5
  rw [a6] at s6
  rw [a7] at s7
  rw [a8] at s8
  rw [a9] at s9
  rw [a10] at s10
  rw [a11] at s11
  have s0 := fun w => Lib.hid (q_new 2 0 0 0 0 0 0 0 0 0 0 1 0 3 10 w (by decide))
  clear a1 a2 a3 a4 a5 a6 a7 a8 a9 a10 a11
  go_enter Try.func23, Try.ntmps23
  go_wp2_with fail
  refine (q_plain _).mono ?_
  rintro e w1 ⟨rfl, o1⟩
  go_wp2_with fail
  refine (s0 _).out.mono ?_
  rintro e w2 ⟨g, rfl, hg, hM, o2⟩
  go_wp2_with fail
  refine (s1 _ _ hM).out.mono ?_
  rintro e w3 ⟨rfl, hM3, o3⟩
  go_wp2_with fail
  refine (s2 _ _ hM3).out.mono ?_
  rintro e w4 ⟨rfl, hM4, o4⟩
  go_wp2_with fail
  refine (s3 _ _ hM4).out.mono ?_
  rintro e w5 ⟨rfl, hM5, o5⟩
  go_wp2_with fail
  refine (s4 _ _ hM5).out.mono ?_
  rintro e w6 ⟨rfl, hM6, o6⟩
  go_wp2_with fail
  refine (s5 _ _ hM6).out.mono ?_
  rintro e w7 ⟨rfl, hM7, o7⟩
  go_wp2_with fail
  refine (s6 _ _ hM7).out.mono ?_
  rintro e w8 ⟨rfl, o8⟩
  have hM8 := hM7.only o8 id
  go_wp2_with fail
  refine (s7 _ _ hM8).out.mono ?_
  rintro e w9 ⟨rfl, hM9, o9⟩
  go_wp2_with fail
  refine (s8 _ _ hM9).out.mono ?_
  rintro e w10 ⟨rfl, o10⟩
  have hM10 := hM9.only o10 id
  go_wp2_with fail
  refine (s9 _ _ hM10).out.mono ?_
  rintro e w11 ⟨rfl, n11, rfl⟩
  have hM11 := hM10.drewN n11
  go_wp2_with fail
  refine (s10 _ _ hM11).out.mono ?_
  rintro e w12 ⟨rfl, hM12, o12⟩
  go_wp2_with fail
  refine (s11 _ _ hM12).out.mono ?_
  rintro e w13 ⟨rfl, hM13, o13⟩
  go_wp2
  go_returns
  have hgw : ∀ (n i : Nat), i < n → i = g → w.heap.size ≤ i := fun n i _ h => by subst h; exact Nat.le_trans o1.size (by simpa using hg)
  have p2 : Only (fun _ => False) w w2 := o1.trans o2
  have p3 := p2.new (o3.mono (hgw _))
  have p4 := p3.new (o4.mono (hgw _))
  have p5 := p4.new (o5.mono (hgw _))
  have p6 := p5.new (o6.mono (hgw _))
  have p7 := p6.new (o7.mono (hgw _))
  have p8 := p7.trans o8
  have p9 := p8.new (o9.mono (hgw _))
  have p10 := (p9.trans o10).drewN n11
  have p12 := p10.new (o12.mono (hgw _))
  have p13 := p12.new (o13.mono (hgw _))
  exact ⟨rfl, by repeat' (first | (with_reducible exact Only.refl _ _) | (with_reducible assumption) | (refine Only.of_none ?_; with_reducible assumption) | (with_reducible refine Only.drewN ?_ _) | (with_reducible refine Only.drew ?_) | (with_reducible refine Only.alloc ?_ _) | (with_reducible refine Only.setCell ?_ ?_ _) | (with_reducible refine Only.then0 ?_ (by with_reducible assumption)) | (with_reducible refine Only.thenN ?_ (by with_reducible assumption) ?_) | (with_reducible refine Only.trans ?_ (by with_reducible assumption)) | (refine .inl ?_; first | rfl | (simp; done) | (simp [Ar.blk]; done)) | (refine .inr ?_; first | omega | (simp; done) | (simp; omega) | exact Only.size (by with_reducible assumption) | (refine Nat.le_trans (Only.size (by with_reducible assumption)) ?_; simp; done)))⟩
end Go.Proofs.Ytiiflgihjnlmcaa
