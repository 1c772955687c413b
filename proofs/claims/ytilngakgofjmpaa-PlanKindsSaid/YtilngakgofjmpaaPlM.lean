/- Plan: may an entry be here (the code's may). No condition. -/
import Derived.Test.YtilngakgofjmpaaPlB
namespace Go.Proofs.Ytilngakgofjmpaa
set_option linter.unusedVariables false
set_option linter.unusedSimpArgs false
open Go.RowKit

set_option maxRecDepth 100000 in
set_option maxHeartbeats 4000000 in
theorem k_may_in (c k s p q : Int) (w : World) (hk : 1 ≤ k ∧ k ≤ 5) : Calls Try.prog 117 #[.agg #[.int .i64 c, .int .u8 k, .int .u8 s, .int .i64 p, .int .i64 q]] w fun x w' => x = .returned (.bool (mayE ⟨c, k, s, p, q⟩)) ∧ Only (fun _ => False) w w' := by
  obtain ⟨M, hMM⟩ : ∃ M : Bool, mayE ⟨c, k, s, p, q⟩ = M := ⟨_, rfl⟩
  rw [hMM]
  have HMM := Lib.hid hMM
  clear hMM
  go_enter Try.func117, Try.ntmps117
  go_upto_region 1 with fail
  obtain ⟨W, hW⟩ : ∃ W, w.alloc (.cells #[.int .i64 c, .int .u8 k, .int .u8 s, .int .i64 p, .int .i64 q] 111) = W := ⟨_, rfl⟩
  have c0 : W.cell? ⟨w.heap.size, 0, none⟩ = some (.int .i64 c) := by rw [← hW]; exact (Cell.new rfl).cell
  have c1 : W.cell? ⟨w.heap.size, 1, none⟩ = some (.int .u8 k) := by rw [← hW]; exact (Cell.new rfl).cell
  have c2 : W.cell? ⟨w.heap.size, 2, none⟩ = some (.int .u8 s) := by rw [← hW]; exact (Cell.new rfl).cell
  have c3 : W.cell? ⟨w.heap.size, 3, none⟩ = some (.int .i64 p) := by rw [← hW]; exact (Cell.new rfl).cell
  have c4 : W.cell? ⟨w.heap.size, 4, none⟩ = some (.int .i64 q) := by rw [← hW]; exact (Cell.new rfl).cell
  have cz := cell_lt c0
  have oW : Only (fun _ => False) w W := by rw [← hW]; exact (Only.refl _ _).alloc _
  rw [hW]
  clear hW
  have HO := Lib.hid oW
  obtain ⟨P, hP⟩ : ∃ P : Bool, decide (1 ≤ p ∧ p ≤ 1000000000) = P := ⟨_, rfl⟩
  go_cut [3] from 5 to 12 (fun s3 wc => s3 = .bool P ∧ wc = W)
  case first =>
    by_cases h1 : 1 ≤ p
    · have t1 : decide (1 ≤ p) = true := by simpa using h1
      by_cases h2 : p ≤ 1000000000
      · have t2 : decide (p ≤ 1000000000) = true := by simpa using h2
        obtain rfl : P = true := by rw [← hP]; simp; omega
        clear hP h1 h2 HO
        go_wp2_with fail
        go_meet
        exact ⟨rfl, rfl⟩
      · have t2 : decide (p ≤ 1000000000) = false := by simpa using h2
        obtain rfl : P = false := by rw [← hP]; simp; omega
        clear hP h1 h2 HO
        go_wp2_with fail
        go_meet
        exact ⟨rfl, rfl⟩
    · have t1 : decide (1 ≤ p) = false := by simpa using h1
      obtain rfl : P = false := by rw [← hP]; simp; omega
      clear hP h1 HO
      go_wp2_with fail
      go_meet
      exact ⟨rfl, rfl⟩
  case rest =>
  obtain ⟨rfl, rfl⟩ := hcut
  have HO2 := HO
  clear HO
  obtain ⟨P2, hP2⟩ : ∃ P2 : Bool, decide (if k = 2 then p = 0 else 1 ≤ p ∧ p ≤ 1000000000) = P2 := ⟨_, rfl⟩
  obtain ⟨W, rfl⟩ : ∃ W : World, W = wc := ⟨_, rfl⟩
  go_upto_block 2 with fail
  go_cut [3] from 13 to 24 (fun s3 wc => s3 = .bool P2 ∧ wc = W)
  case first =>
    by_cases h2 : k = 2
    · subst h2
      by_cases h0 : p = 0
      · have t1 : (p == 0) = true := by simpa using h0
        obtain rfl : P2 = true := by rw [← hP2]; simpa using h0
        clear hP2 hP h0
        go_wp2_with fail
        go_meet
        exact ⟨rfl, rfl⟩
      · have t1 : (p == 0) = false := by simpa using h0
        obtain rfl : P2 = false := by rw [← hP2]; simpa using h0
        clear hP2 hP h0
        go_wp2_with fail
        go_meet
        exact ⟨rfl, rfl⟩
    · obtain rfl : P = P2 := by rw [← hP, ← hP2]; simp [h2]
      have h : k = 1 ∨ k = 3 ∨ k = 4 ∨ k = 5 := by omega
      clear hP2 hP h2 hk
      rcases h with rfl | rfl | rfl | rfl
      all_goals (
        go_wp2_with fail
        go_meet
        exact ⟨rfl, rfl⟩)
  case rest =>
  obtain ⟨rfl, rfl⟩ := hcut
  obtain ⟨W, rfl⟩ : ∃ W : World, W = wc := ⟨_, rfl⟩
  obtain ⟨S, hS⟩ : ∃ S : Bool, decide (s = 1 ∨ s = 2) = S := ⟨_, rfl⟩
  go_upto_region 9 with fail
  go_cut [4] from 25 to 32 (fun s4 wc => s4 = .bool S ∧ wc = W)
  case first =>
    by_cases h1 : s = 1
    · subst h1
      obtain rfl : S = true := by rw [← hS]; rfl
      clear hS
      go_wp2_with fail
      go_meet
      exact ⟨rfl, rfl⟩
    · have t1 : (s == 1) = false := by simpa using h1
      by_cases h2 : s = 2
      · subst h2
        obtain rfl : S = true := by rw [← hS]; rfl
        clear hS
        go_wp2_with fail
        go_meet
        exact ⟨rfl, rfl⟩
      · have t2 : (s == 2) = false := by simpa using h2
        obtain rfl : S = false := by rw [← hS]; simp [h1, h2]
        clear hS h1 h2
        go_wp2_with fail
        go_meet
        exact ⟨rfl, rfl⟩
  case rest =>
  obtain ⟨rfl, rfl⟩ := hcut
  have hM : M = decide (P2 = true ∧ S = true ∧ (1 ≤ c ∧ c ≤ 8) ∧ 1 ≤ q ∧ q ≤ 1000000000) := by
    rw [← HMM.out]
    unfold mayE
    rw [← hP2, ← hS]
    simp only [decide_eq_true_eq]
    simp [hk]
  have HH := Lib.hid hM
  clear hM hP2 hS hP
  cases P2 with
  | false =>
    obtain rfl : M = false := HH.out.trans (by simp)
    clear HH HMM
    go_wp2_with fail
    go_returns
    exact ⟨rfl, HO2.out⟩
  | true =>
    cases S with
    | false =>
      obtain rfl : M = false := HH.out.trans (by simp)
      clear HH HMM
      go_wp2_with fail
      go_returns
      exact ⟨rfl, HO2.out⟩
    | true =>
      by_cases a1 : 1 ≤ c
      · have t1 : decide (1 ≤ c) = true := by simpa using a1
        by_cases a2 : c ≤ 8
        · have t2 : decide (c ≤ 8) = true := by simpa using a2
          by_cases a3 : 1 ≤ q
          · have t3 : decide (1 ≤ q) = true := by simpa using a3
            by_cases a4 : q ≤ 1000000000
            · have t4 : decide (q ≤ 1000000000) = true := by simpa using a4
              obtain rfl : M = true := HH.out.trans (by simp [a1, a2, a3, a4])
              clear HH HMM
              clear a1 a2 a3 a4
              go_wp2_with fail
              go_returns
              exact ⟨rfl, HO2.out⟩
            · have t4 : decide (q ≤ 1000000000) = false := by simpa using a4
              obtain rfl : M = false := HH.out.trans (by simp [a4])
              clear HH HMM
              clear a1 a2 a3 a4
              go_wp2_with fail
              go_returns
              exact ⟨rfl, HO2.out⟩
          · have t3 : decide (1 ≤ q) = false := by simpa using a3
            obtain rfl : M = false := HH.out.trans (by simp [a3])
            clear HH HMM
            clear a1 a2 a3
            go_wp2_with fail
            go_returns
            exact ⟨rfl, HO2.out⟩
        · have t2 : decide (c ≤ 8) = false := by simpa using a2
          obtain rfl : M = false := HH.out.trans (by simp [a2])
          clear HH HMM
          clear a1 a2
          go_wp2_with fail
          go_returns
          exact ⟨rfl, HO2.out⟩
      · have t1 : decide (1 ≤ c) = false := by simpa using a1
        obtain rfl : M = false := HH.out.trans (by simp [a1])
        clear HH HMM
        clear a1
        go_wp2_with fail
        go_returns
        exact ⟨rfl, HO2.out⟩
set_option maxRecDepth 100000 in
theorem k_may_out (c k s p q : Int) (w : World) (hk : ¬ (1 ≤ k ∧ k ≤ 5)) : Calls Try.prog 117 #[.agg #[.int .i64 c, .int .u8 k, .int .u8 s, .int .i64 p, .int .i64 q]] w fun x w' => x = .returned (.bool false) ∧ Only (fun _ => False) w w' := by
  have t1 : (k == 1) = false := by simp; omega
  have t2 : (k == 2) = false := by simp; omega
  have t3 : (k == 3) = false := by simp; omega
  have t4 : (k == 4) = false := by simp; omega
  have t5 : (k == 5) = false := by simp; omega
  clear hk
  by_cases h1 : 1 ≤ p
  · have u1 : decide (1 ≤ p) = true := by simpa using h1
    by_cases h2 : p ≤ 1000000000
    · have u2 : decide (p ≤ 1000000000) = true := by simpa using h2
      clear h1 h2
      go_enter Try.func117, Try.ntmps117
      go_wp2_with fail
      go_returns
      exact ⟨rfl, by repeat' (first | (with_reducible exact Only.refl _ _) | (with_reducible assumption) | (refine Only.of_none ?_; with_reducible assumption) | (with_reducible refine Only.drewN ?_ _) | (with_reducible refine Only.drew ?_) | (with_reducible refine Only.alloc ?_ _) | (with_reducible refine Only.setCell ?_ ?_ _) | (with_reducible refine Only.then0 ?_ (by with_reducible assumption)) | (with_reducible refine Only.thenN ?_ (by with_reducible assumption) ?_) | (with_reducible refine Only.trans ?_ (by with_reducible assumption)) | (refine .inl ?_; first | rfl | (simp; done) | (simp [Ar.blk]; done)) | (refine .inr ?_; first | omega | (simp; done) | (simp; omega) | exact Only.size (by with_reducible assumption) | (refine Nat.le_trans (Only.size (by with_reducible assumption)) ?_; simp; done)))⟩
    · have u2 : decide (p ≤ 1000000000) = false := by simpa using h2
      clear h1 h2
      go_enter Try.func117, Try.ntmps117
      go_wp2_with fail
      go_returns
      exact ⟨rfl, by repeat' (first | (with_reducible exact Only.refl _ _) | (with_reducible assumption) | (refine Only.of_none ?_; with_reducible assumption) | (with_reducible refine Only.drewN ?_ _) | (with_reducible refine Only.drew ?_) | (with_reducible refine Only.alloc ?_ _) | (with_reducible refine Only.setCell ?_ ?_ _) | (with_reducible refine Only.then0 ?_ (by with_reducible assumption)) | (with_reducible refine Only.thenN ?_ (by with_reducible assumption) ?_) | (with_reducible refine Only.trans ?_ (by with_reducible assumption)) | (refine .inl ?_; first | rfl | (simp; done) | (simp [Ar.blk]; done)) | (refine .inr ?_; first | omega | (simp; done) | (simp; omega) | exact Only.size (by with_reducible assumption) | (refine Nat.le_trans (Only.size (by with_reducible assumption)) ?_; simp; done)))⟩
  · have u1 : decide (1 ≤ p) = false := by simpa using h1
    clear h1
    go_enter Try.func117, Try.ntmps117
    go_wp2_with fail
    go_returns
    exact ⟨rfl, by repeat' (first | (with_reducible exact Only.refl _ _) | (with_reducible assumption) | (refine Only.of_none ?_; with_reducible assumption) | (with_reducible refine Only.drewN ?_ _) | (with_reducible refine Only.drew ?_) | (with_reducible refine Only.alloc ?_ _) | (with_reducible refine Only.setCell ?_ ?_ _) | (with_reducible refine Only.then0 ?_ (by with_reducible assumption)) | (with_reducible refine Only.thenN ?_ (by with_reducible assumption) ?_) | (with_reducible refine Only.trans ?_ (by with_reducible assumption)) | (refine .inl ?_; first | rfl | (simp; done) | (simp [Ar.blk]; done)) | (refine .inr ?_; first | omega | (simp; done) | (simp; omega) | exact Only.size (by with_reducible assumption) | (refine Nat.le_trans (Only.size (by with_reducible assumption)) ?_; simp; done)))⟩
theorem k_may (e : EnR) (w : World) : Calls Try.prog 117 #[enV e] w fun x w' => x = .returned (.bool (mayE e)) ∧ Only (fun _ => False) w w' := by
  by_cases hk : 1 ≤ e.k ∧ e.k ≤ 5
  · exact k_may_in e.c e.k e.s e.p e.q w hk
  · have h : mayE e = false := by unfold mayE; exact decide_eq_false (fun h => hk h.1)
    rw [h]
    exact k_may_out e.c e.k e.s e.p e.q w hk
end Go.Proofs.Ytilngakgofjmpaa
