/- Plan: may an entry be here (the document's May). No condition. -/
import Derived.Test.YtilngakgofjmpaaPlB
import Derived.Test.YtilngakgofjmpaaR6a
namespace Go.Proofs.Ytilngakgofjmpaa
set_option linter.unusedVariables false
set_option linter.unusedSimpArgs false
open Go.RowKit Go.Shelf
open Od (OrdR)

set_option maxRecDepth 100000 in
set_option maxHeartbeats 4000000 in
theorem r_may (e : EnR) (w : World) : Calls Try.prog 119 #[enV e] w fun x w' => x = .returned (.bool (mayE e)) ∧ Only (fun _ => False) w w' := by
  obtain ⟨c, k, s, p, q⟩ := e
  obtain ⟨M, hMM⟩ : ∃ M : Bool, mayE ⟨c, k, s, p, q⟩ = M := ⟨_, rfl⟩
  rw [hMM]
  unfold enV
  simp only
  have HMM := Lib.hid hMM
  have HS := Lib.hid fun W => r6_sided s W
  clear hMM
  by_cases hs' : sidedB s = false
  · have hs : True := trivial
    rw [hs'] at HS
    have hne : ¬ (s = 1 ∨ s = 2) := by unfold sidedB at hs'; simpa using hs'
    obtain rfl : M = false := by
      rw [← HMM.out]
      unfold mayE
      dsimp only
      exact decide_eq_false (fun h => hne h.2.2.1)
    clear HMM hs hs' hne
    go_enter Try.func119, Try.ntmps119
    go_wp2_with fail
    refine (HS.out _).mono ?_
    rintro x1 w1 ⟨rfl, rfl⟩
    go_wp2_with fail
    go_returns
    exact ⟨rfl, by repeat' (first | (with_reducible exact Only.refl _ _) | (with_reducible assumption) | (refine Only.of_none ?_; with_reducible assumption) | (with_reducible refine Only.drewN ?_ _) | (with_reducible refine Only.drew ?_) | (with_reducible refine Only.alloc ?_ _) | (with_reducible refine Only.setCell ?_ ?_ _) | (with_reducible refine Only.then0 ?_ (by with_reducible assumption)) | (with_reducible refine Only.thenN ?_ (by with_reducible assumption) ?_) | (with_reducible refine Only.trans ?_ (by with_reducible assumption)) | (refine .inl ?_; first | rfl | (simp; done) | (simp [Ar.blk]; done)) | (refine .inr ?_; first | omega | (simp; done) | (simp; omega) | exact Only.size (by with_reducible assumption) | (refine Nat.le_trans (Only.size (by with_reducible assumption)) ?_; simp; done)))⟩
  have hs : sidedB s = true := by simpa using hs'
  have hsd : s = 1 ∨ s = 2 := by unfold sidedB at hs; simpa using hs
  rw [hs] at HS
  clear hs hs'
  by_cases a1 : k < 1
  · have ta1 : decide (k < 1) = true := by simpa using a1
    obtain rfl : M = false := by
      rw [← HMM.out]
      unfold mayE
      dsimp only
      exact decide_eq_false (fun h => by omega)
    clear HMM 
    go_enter Try.func119, Try.ntmps119
    go_wp2_with fail
    refine (HS.out _).mono ?_
    rintro x1 w1 ⟨rfl, rfl⟩
    go_wp2_with fail
    go_returns
    exact ⟨rfl, by repeat' (first | (with_reducible exact Only.refl _ _) | (with_reducible assumption) | (refine Only.of_none ?_; with_reducible assumption) | (with_reducible refine Only.drewN ?_ _) | (with_reducible refine Only.drew ?_) | (with_reducible refine Only.alloc ?_ _) | (with_reducible refine Only.setCell ?_ ?_ _) | (with_reducible refine Only.then0 ?_ (by with_reducible assumption)) | (with_reducible refine Only.thenN ?_ (by with_reducible assumption) ?_) | (with_reducible refine Only.trans ?_ (by with_reducible assumption)) | (refine .inl ?_; first | rfl | (simp; done) | (simp [Ar.blk]; done)) | (refine .inr ?_; first | omega | (simp; done) | (simp; omega) | exact Only.size (by with_reducible assumption) | (refine Nat.le_trans (Only.size (by with_reducible assumption)) ?_; simp; done)))⟩
  have ta1 : decide (k < 1) = false := by simpa using a1
  by_cases a2 : 5 < k
  · have ta2 : decide (5 < k) = true := by simpa using a2
    obtain rfl : M = false := by
      rw [← HMM.out]
      unfold mayE
      dsimp only
      exact decide_eq_false (fun h => by omega)
    clear HMM 
    go_enter Try.func119, Try.ntmps119
    go_wp2_with fail
    refine (HS.out _).mono ?_
    rintro x1 w1 ⟨rfl, rfl⟩
    go_wp2_with fail
    go_returns
    exact ⟨rfl, by repeat' (first | (with_reducible exact Only.refl _ _) | (with_reducible assumption) | (refine Only.of_none ?_; with_reducible assumption) | (with_reducible refine Only.drewN ?_ _) | (with_reducible refine Only.drew ?_) | (with_reducible refine Only.alloc ?_ _) | (with_reducible refine Only.setCell ?_ ?_ _) | (with_reducible refine Only.then0 ?_ (by with_reducible assumption)) | (with_reducible refine Only.thenN ?_ (by with_reducible assumption) ?_) | (with_reducible refine Only.trans ?_ (by with_reducible assumption)) | (refine .inl ?_; first | rfl | (simp; done) | (simp [Ar.blk]; done)) | (refine .inr ?_; first | omega | (simp; done) | (simp; omega) | exact Only.size (by with_reducible assumption) | (refine Nat.le_trans (Only.size (by with_reducible assumption)) ?_; simp; done)))⟩
  have ta2 : decide (5 < k) = false := by simpa using a2
  by_cases a3 : c < 1
  · have ta3 : decide (c < 1) = true := by simpa using a3
    obtain rfl : M = false := by
      rw [← HMM.out]
      unfold mayE
      dsimp only
      exact decide_eq_false (fun h => by omega)
    clear HMM 
    go_enter Try.func119, Try.ntmps119
    go_wp2_with fail
    refine (HS.out _).mono ?_
    rintro x1 w1 ⟨rfl, rfl⟩
    go_wp2_with fail
    go_returns
    exact ⟨rfl, by repeat' (first | (with_reducible exact Only.refl _ _) | (with_reducible assumption) | (refine Only.of_none ?_; with_reducible assumption) | (with_reducible refine Only.drewN ?_ _) | (with_reducible refine Only.drew ?_) | (with_reducible refine Only.alloc ?_ _) | (with_reducible refine Only.setCell ?_ ?_ _) | (with_reducible refine Only.then0 ?_ (by with_reducible assumption)) | (with_reducible refine Only.thenN ?_ (by with_reducible assumption) ?_) | (with_reducible refine Only.trans ?_ (by with_reducible assumption)) | (refine .inl ?_; first | rfl | (simp; done) | (simp [Ar.blk]; done)) | (refine .inr ?_; first | omega | (simp; done) | (simp; omega) | exact Only.size (by with_reducible assumption) | (refine Nat.le_trans (Only.size (by with_reducible assumption)) ?_; simp; done)))⟩
  have ta3 : decide (c < 1) = false := by simpa using a3
  by_cases a4 : 8 < c
  · have ta4 : decide (8 < c) = true := by simpa using a4
    obtain rfl : M = false := by
      rw [← HMM.out]
      unfold mayE
      dsimp only
      exact decide_eq_false (fun h => by omega)
    clear HMM 
    go_enter Try.func119, Try.ntmps119
    go_wp2_with fail
    refine (HS.out _).mono ?_
    rintro x1 w1 ⟨rfl, rfl⟩
    go_wp2_with fail
    go_returns
    exact ⟨rfl, by repeat' (first | (with_reducible exact Only.refl _ _) | (with_reducible assumption) | (refine Only.of_none ?_; with_reducible assumption) | (with_reducible refine Only.drewN ?_ _) | (with_reducible refine Only.drew ?_) | (with_reducible refine Only.alloc ?_ _) | (with_reducible refine Only.setCell ?_ ?_ _) | (with_reducible refine Only.then0 ?_ (by with_reducible assumption)) | (with_reducible refine Only.thenN ?_ (by with_reducible assumption) ?_) | (with_reducible refine Only.trans ?_ (by with_reducible assumption)) | (refine .inl ?_; first | rfl | (simp; done) | (simp [Ar.blk]; done)) | (refine .inr ?_; first | omega | (simp; done) | (simp; omega) | exact Only.size (by with_reducible assumption) | (refine Nat.le_trans (Only.size (by with_reducible assumption)) ?_; simp; done)))⟩
  have ta4 : decide (8 < c) = false := by simpa using a4
  by_cases a5 : q < 1
  · have ta5 : decide (q < 1) = true := by simpa using a5
    obtain rfl : M = false := by
      rw [← HMM.out]
      unfold mayE
      dsimp only
      exact decide_eq_false (fun h => by omega)
    clear HMM 
    go_enter Try.func119, Try.ntmps119
    go_wp2_with fail
    refine (HS.out _).mono ?_
    rintro x1 w1 ⟨rfl, rfl⟩
    go_wp2_with fail
    go_returns
    exact ⟨rfl, by repeat' (first | (with_reducible exact Only.refl _ _) | (with_reducible assumption) | (refine Only.of_none ?_; with_reducible assumption) | (with_reducible refine Only.drewN ?_ _) | (with_reducible refine Only.drew ?_) | (with_reducible refine Only.alloc ?_ _) | (with_reducible refine Only.setCell ?_ ?_ _) | (with_reducible refine Only.then0 ?_ (by with_reducible assumption)) | (with_reducible refine Only.thenN ?_ (by with_reducible assumption) ?_) | (with_reducible refine Only.trans ?_ (by with_reducible assumption)) | (refine .inl ?_; first | rfl | (simp; done) | (simp [Ar.blk]; done)) | (refine .inr ?_; first | omega | (simp; done) | (simp; omega) | exact Only.size (by with_reducible assumption) | (refine Nat.le_trans (Only.size (by with_reducible assumption)) ?_; simp; done)))⟩
  have ta5 : decide (q < 1) = false := by simpa using a5
  by_cases a6 : 1000000000 < q
  · have ta6 : decide (1000000000 < q) = true := by simpa using a6
    obtain rfl : M = false := by
      rw [← HMM.out]
      unfold mayE
      dsimp only
      exact decide_eq_false (fun h => by omega)
    clear HMM 
    go_enter Try.func119, Try.ntmps119
    go_wp2_with fail
    refine (HS.out _).mono ?_
    rintro x1 w1 ⟨rfl, rfl⟩
    go_wp2_with fail
    go_returns
    exact ⟨rfl, by repeat' (first | (with_reducible exact Only.refl _ _) | (with_reducible assumption) | (refine Only.of_none ?_; with_reducible assumption) | (with_reducible refine Only.drewN ?_ _) | (with_reducible refine Only.drew ?_) | (with_reducible refine Only.alloc ?_ _) | (with_reducible refine Only.setCell ?_ ?_ _) | (with_reducible refine Only.then0 ?_ (by with_reducible assumption)) | (with_reducible refine Only.thenN ?_ (by with_reducible assumption) ?_) | (with_reducible refine Only.trans ?_ (by with_reducible assumption)) | (refine .inl ?_; first | rfl | (simp; done) | (simp [Ar.blk]; done)) | (refine .inr ?_; first | omega | (simp; done) | (simp; omega) | exact Only.size (by with_reducible assumption) | (refine Nat.le_trans (Only.size (by with_reducible assumption)) ?_; simp; done)))⟩
  have ta6 : decide (1000000000 < q) = false := by simpa using a6
  by_cases k2 : k = 2
  · subst k2
    by_cases p0 : p = 0
    · have tp : (p == 0) = true := by simpa using p0
      obtain rfl : M = true := by
        rw [← HMM.out]
        unfold mayE
        dsimp only
        exact decide_eq_true ⟨by omega, by rw [if_pos rfl]; exact p0, hsd, by omega, by omega⟩
      clear HMM 
      go_enter Try.func119, Try.ntmps119
      go_wp2_with fail
      refine (HS.out _).mono ?_
      rintro x1 w1 ⟨rfl, rfl⟩
      go_wp2_with fail
      go_returns
      exact ⟨rfl, by repeat' (first | (with_reducible exact Only.refl _ _) | (with_reducible assumption) | (refine Only.of_none ?_; with_reducible assumption) | (with_reducible refine Only.drewN ?_ _) | (with_reducible refine Only.drew ?_) | (with_reducible refine Only.alloc ?_ _) | (with_reducible refine Only.setCell ?_ ?_ _) | (with_reducible refine Only.then0 ?_ (by with_reducible assumption)) | (with_reducible refine Only.thenN ?_ (by with_reducible assumption) ?_) | (with_reducible refine Only.trans ?_ (by with_reducible assumption)) | (refine .inl ?_; first | rfl | (simp; done) | (simp [Ar.blk]; done)) | (refine .inr ?_; first | omega | (simp; done) | (simp; omega) | exact Only.size (by with_reducible assumption) | (refine Nat.le_trans (Only.size (by with_reducible assumption)) ?_; simp; done)))⟩
    · have tp : (p == 0) = false := by simpa using p0
      obtain rfl : M = false := by
        rw [← HMM.out]
        unfold mayE
        dsimp only
        exact decide_eq_false (fun h => by have h2 := h.2.1; rw [if_pos rfl] at h2; exact p0 h2)
      clear HMM 
      go_enter Try.func119, Try.ntmps119
      go_wp2_with fail
      refine (HS.out _).mono ?_
      rintro x1 w1 ⟨rfl, rfl⟩
      go_wp2_with fail
      go_returns
      exact ⟨rfl, by repeat' (first | (with_reducible exact Only.refl _ _) | (with_reducible assumption) | (refine Only.of_none ?_; with_reducible assumption) | (with_reducible refine Only.drewN ?_ _) | (with_reducible refine Only.drew ?_) | (with_reducible refine Only.alloc ?_ _) | (with_reducible refine Only.setCell ?_ ?_ _) | (with_reducible refine Only.then0 ?_ (by with_reducible assumption)) | (with_reducible refine Only.thenN ?_ (by with_reducible assumption) ?_) | (with_reducible refine Only.trans ?_ (by with_reducible assumption)) | (refine .inl ?_; first | rfl | (simp; done) | (simp [Ar.blk]; done)) | (refine .inr ?_; first | omega | (simp; done) | (simp; omega) | exact Only.size (by with_reducible assumption) | (refine Nat.le_trans (Only.size (by with_reducible assumption)) ?_; simp; done)))⟩
  have t2 : (k == 2) = false := by simpa using k2
  by_cases b1 : 1 ≤ p
  · have t1 : decide (1 ≤ p) = true := by simpa using b1
    by_cases b2 : p ≤ 1000000000
    · have t3 : decide (p ≤ 1000000000) = true := by simpa using b2
      obtain rfl : M = true := by
        rw [← HMM.out]
        unfold mayE
        dsimp only
        exact decide_eq_true ⟨by omega, by rw [if_neg k2]; exact ⟨b1, b2⟩, hsd, by omega, by omega⟩
      clear HMM 
      go_enter Try.func119, Try.ntmps119
      go_wp2_with fail
      refine (HS.out _).mono ?_
      rintro x1 w1 ⟨rfl, rfl⟩
      go_wp2_with fail
      go_returns
      exact ⟨rfl, by repeat' (first | (with_reducible exact Only.refl _ _) | (with_reducible assumption) | (refine Only.of_none ?_; with_reducible assumption) | (with_reducible refine Only.drewN ?_ _) | (with_reducible refine Only.drew ?_) | (with_reducible refine Only.alloc ?_ _) | (with_reducible refine Only.setCell ?_ ?_ _) | (with_reducible refine Only.then0 ?_ (by with_reducible assumption)) | (with_reducible refine Only.thenN ?_ (by with_reducible assumption) ?_) | (with_reducible refine Only.trans ?_ (by with_reducible assumption)) | (refine .inl ?_; first | rfl | (simp; done) | (simp [Ar.blk]; done)) | (refine .inr ?_; first | omega | (simp; done) | (simp; omega) | exact Only.size (by with_reducible assumption) | (refine Nat.le_trans (Only.size (by with_reducible assumption)) ?_; simp; done)))⟩
    · have t3 : decide (p ≤ 1000000000) = false := by simpa using b2
      obtain rfl : M = false := by
        rw [← HMM.out]
        unfold mayE
        dsimp only
        exact decide_eq_false (fun h => by have h2 := h.2.1; rw [if_neg k2] at h2; exact b2 h2.2)
      clear HMM 
      go_enter Try.func119, Try.ntmps119
      go_wp2_with fail
      refine (HS.out _).mono ?_
      rintro x1 w1 ⟨rfl, rfl⟩
      go_wp2_with fail
      go_returns
      exact ⟨rfl, by repeat' (first | (with_reducible exact Only.refl _ _) | (with_reducible assumption) | (refine Only.of_none ?_; with_reducible assumption) | (with_reducible refine Only.drewN ?_ _) | (with_reducible refine Only.drew ?_) | (with_reducible refine Only.alloc ?_ _) | (with_reducible refine Only.setCell ?_ ?_ _) | (with_reducible refine Only.then0 ?_ (by with_reducible assumption)) | (with_reducible refine Only.thenN ?_ (by with_reducible assumption) ?_) | (with_reducible refine Only.trans ?_ (by with_reducible assumption)) | (refine .inl ?_; first | rfl | (simp; done) | (simp [Ar.blk]; done)) | (refine .inr ?_; first | omega | (simp; done) | (simp; omega) | exact Only.size (by with_reducible assumption) | (refine Nat.le_trans (Only.size (by with_reducible assumption)) ?_; simp; done)))⟩
  · have t1 : decide (1 ≤ p) = false := by simpa using b1
    obtain rfl : M = false := by
      rw [← HMM.out]
      unfold mayE
      dsimp only
      exact decide_eq_false (fun h => by have h2 := h.2.1; rw [if_neg k2] at h2; exact b1 h2.1)
    clear HMM 
    go_enter Try.func119, Try.ntmps119
    go_wp2_with fail
    refine (HS.out _).mono ?_
    rintro x1 w1 ⟨rfl, rfl⟩
    go_wp2_with fail
    go_returns
    exact ⟨rfl, by repeat' (first | (with_reducible exact Only.refl _ _) | (with_reducible assumption) | (refine Only.of_none ?_; with_reducible assumption) | (with_reducible refine Only.drewN ?_ _) | (with_reducible refine Only.drew ?_) | (with_reducible refine Only.alloc ?_ _) | (with_reducible refine Only.setCell ?_ ?_ _) | (with_reducible refine Only.then0 ?_ (by with_reducible assumption)) | (with_reducible refine Only.thenN ?_ (by with_reducible assumption) ?_) | (with_reducible refine Only.trans ?_ (by with_reducible assumption)) | (refine .inl ?_; first | rfl | (simp; done) | (simp [Ar.blk]; done)) | (refine .inr ?_; first | omega | (simp; done) | (simp; omega) | exact Only.size (by with_reducible assumption) | (refine Nat.le_trans (Only.size (by with_reducible assumption)) ?_; simp; done)))⟩
end Go.Proofs.Ytilngakgofjmpaa
