/- The contracts of package quota, the rest: New; the example meter. No condition. -/
import Derived.Test.YtiiflgihjnlmcaaQuota2
import Derived.Test.YtiiflgihjnlmcaaFlat
namespace Go.Proofs.Ytiiflgihjnlmcaa
set_option linter.unusedVariables false
set_option linter.unusedSimpArgs false
open Go.RowKit

def inB (n l h : Int) : Bool := decide (l ≤ n) && decide (n ≤ h)
theorem inB_iff {n l h : Int} : inB n l h = true ↔ l ≤ n ∧ n ≤ h := by simp [inB]

set_option maxHeartbeats 400000 in
theorem q_lam (n l h : Int) (w : World) : Calls Try.prog 84 #[.int .i64 n, .int .i64 l, .int .i64 h] w fun e w' => e = .returned (.bool (inB n l h)) ∧ w' = w := by
  by_cases h1 : l ≤ n
  · by_cases h2 : n ≤ h
    · have e : inB n l h = true := inB_iff.2 ⟨h1, h2⟩
      rw [e]; clear e
      go_enter Try.func84, Try.ntmps84
      go_wp2
      go_ret
      exact ⟨rfl, rfl⟩
    · have e : inB n l h = false := by simp [inB, h2]
      have h3 : decide (n ≤ h) = false := by simp; omega
      rw [e]; clear e h2
      go_enter Try.func84, Try.ntmps84
      go_wp2
      go_ret
      exact ⟨rfl, rfl⟩
  · have e : inB n l h = false := by simp [inB, h1]
    have h3 : n < l := by omega
    have h4 : decide (n ≥ l) = false := by simp; omega
    rw [e]; clear e h1
    go_enter Try.func84, Try.ntmps84
    go_wp2
    go_ret
    exact ⟨rfl, rfl⟩

def Mt.init (cl st ac win : Int) : Mt := ⟨cl, st, ac, win, 0, fun _ => (0, 0, 0)⟩
theorem MtOk.init {cl st ac win : Int} (h0 : inB cl 1 8 = true) (h1 : inB st 0 8 = true) (h2 : inB ac 0 1000000 = true) (h3 : inB win 1 1000000000000000 = true) : MtOk (Mt.init cl st ac win) := by
  have := inB_iff.1 h0; have := inB_iff.1 h1; have := inB_iff.1 h2; have := inB_iff.1 h3
  constructor <;> simp only [Mt.init] <;> (try intro _) <;> first | omega | simp

def CfgOk (cl st ac win : Int) : Bool := inB cl 1 8 && inB st 0 8 && inB ac 0 1000000 && inB win 1 1000000000000000

set_option maxHeartbeats 400000 in
theorem q_new_no (x0 x1 x2 x3 x4 x5 x6 x7 x8 x9 x10 x11 x12 x13 x14 : Int) (w : World) (h : CfgOk x0 x11 x13 x14 = false) :
    Calls Try.prog 24 #[.agg #[.int .i64 x0, .int .i64 x1, .int .i64 x2, .int .i64 x3, .int .i64 x4, .int .i64 x5, .int .i64 x6, .int .i64 x7, .int .i64 x8, .int .i64 x9, .int .i64 x10, .int .i64 x11, .int .i64 x12, .int .i64 x13, .int .i64 x14]] w fun e w' =>
      e = .returned (.tuple #[.pointer none, .int .i64 1]) ∧ Only (fun _ => False) w w' := by
  unfold CfgOk at h
  have HL := Lib.hid (fun n l h w => q_lam n l h w)
  cases b0 : inB x0 1 8
  · clear h
    go_enter Try.func24, Try.ntmps24
    go_wp2_with ((go_at_call 84; refine (HL.out _ _ _ _).mono ?_; rintro e w1 ⟨rfl, rfl⟩))
    go_returns
    exact ⟨rfl, by repeat' (first | (with_reducible exact Only.refl _ _) | (with_reducible assumption) | (refine Only.of_none ?_; with_reducible assumption) | (with_reducible refine Only.drewN ?_ _) | (with_reducible refine Only.drew ?_) | (with_reducible refine Only.alloc ?_ _) | (with_reducible refine Only.setCell ?_ ?_ _) | (with_reducible refine Only.then0 ?_ (by with_reducible assumption)) | (with_reducible refine Only.thenN ?_ (by with_reducible assumption) ?_) | (with_reducible refine Only.trans ?_ (by with_reducible assumption)) | (refine .inl ?_; first | rfl | (simp; done) | (simp [Ar.blk]; done)) | (refine .inr ?_; first | omega | (simp; done) | (simp; omega) | exact Only.size (by with_reducible assumption) | (refine Nat.le_trans (Only.size (by with_reducible assumption)) ?_; simp; done)))⟩
  · cases b1 : inB x11 0 8
    · clear h
      go_enter Try.func24, Try.ntmps24
      go_wp2_with ((go_at_call 84; refine (HL.out _ _ _ _).mono ?_; rintro e w1 ⟨rfl, rfl⟩))
      go_returns
      exact ⟨rfl, by repeat' (first | (with_reducible exact Only.refl _ _) | (with_reducible assumption) | (refine Only.of_none ?_; with_reducible assumption) | (with_reducible refine Only.drewN ?_ _) | (with_reducible refine Only.drew ?_) | (with_reducible refine Only.alloc ?_ _) | (with_reducible refine Only.setCell ?_ ?_ _) | (with_reducible refine Only.then0 ?_ (by with_reducible assumption)) | (with_reducible refine Only.thenN ?_ (by with_reducible assumption) ?_) | (with_reducible refine Only.trans ?_ (by with_reducible assumption)) | (refine .inl ?_; first | rfl | (simp; done) | (simp [Ar.blk]; done)) | (refine .inr ?_; first | omega | (simp; done) | (simp; omega) | exact Only.size (by with_reducible assumption) | (refine Nat.le_trans (Only.size (by with_reducible assumption)) ?_; simp; done)))⟩
    · cases b2 : inB x13 0 1000000
      · clear h
        go_enter Try.func24, Try.ntmps24
        go_wp2_with ((go_at_call 84; refine (HL.out _ _ _ _).mono ?_; rintro e w1 ⟨rfl, rfl⟩))
        go_returns
        exact ⟨rfl, by repeat' (first | (with_reducible exact Only.refl _ _) | (with_reducible assumption) | (refine Only.of_none ?_; with_reducible assumption) | (with_reducible refine Only.drewN ?_ _) | (with_reducible refine Only.drew ?_) | (with_reducible refine Only.alloc ?_ _) | (with_reducible refine Only.setCell ?_ ?_ _) | (with_reducible refine Only.then0 ?_ (by with_reducible assumption)) | (with_reducible refine Only.thenN ?_ (by with_reducible assumption) ?_) | (with_reducible refine Only.trans ?_ (by with_reducible assumption)) | (refine .inl ?_; first | rfl | (simp; done) | (simp [Ar.blk]; done)) | (refine .inr ?_; first | omega | (simp; done) | (simp; omega) | exact Only.size (by with_reducible assumption) | (refine Nat.le_trans (Only.size (by with_reducible assumption)) ?_; simp; done)))⟩
      · have b3 : inB x14 1 1000000000000000 = false := by simpa [b0, b1, b2] using h
        clear h
        go_enter Try.func24, Try.ntmps24
        go_wp2_with ((go_at_call 84; refine (HL.out _ _ _ _).mono ?_; rintro e w1 ⟨rfl, rfl⟩))
        go_returns
        exact ⟨rfl, by repeat' (first | (with_reducible exact Only.refl _ _) | (with_reducible assumption) | (refine Only.of_none ?_; with_reducible assumption) | (with_reducible refine Only.drewN ?_ _) | (with_reducible refine Only.drew ?_) | (with_reducible refine Only.alloc ?_ _) | (with_reducible refine Only.setCell ?_ ?_ _) | (with_reducible refine Only.then0 ?_ (by with_reducible assumption)) | (with_reducible refine Only.thenN ?_ (by with_reducible assumption) ?_) | (with_reducible refine Only.trans ?_ (by with_reducible assumption)) | (refine .inl ?_; first | rfl | (simp; done) | (simp [Ar.blk]; done)) | (refine .inr ?_; first | omega | (simp; done) | (simp; omega) | exact Only.size (by with_reducible assumption) | (refine Nat.le_trans (Only.size (by with_reducible assumption)) ?_; simp; done)))⟩

/-- A new meter's block. -/
theorem MtAt.new (x0 x1 x2 x3 x4 x5 x6 x7 x8 x9 x10 x11 x12 x13 x14 : Int) (w : World) (t : TypeId) (g : Nat) (hg : g = w.heap.size) (zs : List Value) (hz : zs = List.replicate 28 (.int .i64 0)) :
    MtAt (w.alloc (.cells (([.int .i64 x0, .int .i64 x1, .int .i64 x2, .int .i64 x3, .int .i64 x4, .int .i64 x5, .int .i64 x6, .int .i64 x7, .int .i64 x8, .int .i64 x9, .int .i64 x10, .int .i64 x11, .int .i64 x12, .int .i64 x13, .int .i64 x14] : List Value) ++ zs).toArray t)) g (Mt.init x0 x11 x13 x14) := by
  subst hz; subst hg
  have z : ∀ i, i < 28 → Cell (w.alloc (.cells (([.int .i64 x0, .int .i64 x1, .int .i64 x2, .int .i64 x3, .int .i64 x4, .int .i64 x5, .int .i64 x6, .int .i64 x7, .int .i64 x8, .int .i64 x9, .int .i64 x10, .int .i64 x11, .int .i64 x12, .int .i64 x13, .int .i64 x14] : List Value) ++ List.replicate 28 (Value.int .i64 0)).toArray t)) w.heap.size (15 + i) (.int .i64 0) := fun i hi => Cell.new (by
    rw [List.getElem?_toArray, List.getElem?_append_right (by simp), List.getElem?_replicate, if_pos (by simp; omega)])
  refine ⟨Cell.new rfl, Cell.new rfl, Cell.new rfl, Cell.new rfl, z 0 (by omega), fun k hk => ?_, fun k hk => ?_, fun k hk => ?_⟩
  · have := z (1 + k * 3) (by omega); rwa [show 15 + (1 + k * 3) = 16 + k * 3 by omega] at this
  · have := z (1 + k * 3 + 1) (by omega); rwa [show 15 + (1 + k * 3 + 1) = 16 + k * 3 + 1 by omega] at this
  · have := z (1 + k * 3 + 2) (by omega); rwa [show 15 + (1 + k * 3 + 2) = 16 + k * 3 + 2 by omega] at this

set_option maxHeartbeats 400000 in
theorem q_new (x0 x1 x2 x3 x4 x5 x6 x7 x8 x9 x10 x11 x12 x13 x14 : Int) (w : World) (h : CfgOk x0 x11 x13 x14 = true) :
    Calls Try.prog 24 #[.agg #[.int .i64 x0, .int .i64 x1, .int .i64 x2, .int .i64 x3, .int .i64 x4, .int .i64 x5, .int .i64 x6, .int .i64 x7, .int .i64 x8, .int .i64 x9, .int .i64 x10, .int .i64 x11, .int .i64 x12, .int .i64 x13, .int .i64 x14]] w fun e w' =>
      ∃ g, e = .returned (.tuple #[.pointer (some ⟨g, 0, none⟩), .int .i64 0]) ∧ w.heap.size ≤ g ∧ MtAt w' g (Mt.init x0 x11 x13 x14) ∧ Only (fun _ => False) w w' := by
  unfold CfgOk at h
  have HL := Lib.hid (fun n l h w => q_lam n l h w)
  simp only [Bool.and_eq_true] at h
  obtain ⟨⟨⟨b0, b1⟩, b2⟩, b3⟩ := h
  go_enter Try.func24, Try.ntmps24
  go_wp2_with ((go_at_call 84; refine (HL.out _ _ _ _).mono ?_; rintro e w1 ⟨rfl, rfl⟩))
  go_returns
  exact ⟨_, rfl, by simp, MtAt.new x0 x1 x2 x3 x4 x5 x6 x7 x8 x9 x10 x11 x12 x13 x14 _ _ _ (by simp) _ rfl, by repeat' (first | (with_reducible exact Only.refl _ _) | (with_reducible assumption) | (refine Only.of_none ?_; with_reducible assumption) | (with_reducible refine Only.drewN ?_ _) | (with_reducible refine Only.drew ?_) | (with_reducible refine Only.alloc ?_ _) | (with_reducible refine Only.setCell ?_ ?_ _) | (with_reducible refine Only.then0 ?_ (by with_reducible assumption)) | (with_reducible refine Only.thenN ?_ (by with_reducible assumption) ?_) | (with_reducible refine Only.trans ?_ (by with_reducible assumption)) | (refine .inl ?_; first | rfl | (simp; done) | (simp [Ar.blk]; done)) | (refine .inr ?_; first | omega | (simp; done) | (simp; omega) | exact Only.size (by with_reducible assumption) | (refine Nat.le_trans (Only.size (by with_reducible assumption)) ?_; simp; done)))⟩
end Go.Proofs.Ytiiflgihjnlmcaa
