/- The laws of layer 10: their example. No condition. -/
import Derived.Test.YtiiflgihjnlmcaaSnap5
import Derived.Test.YtiiflgihjnlmcaaSnap6
import Derived.Test.YtiiflgihjnlmcaaPSnapFeedsx4
namespace Go.Proofs.Ytiiflgihjnlmcaa
set_option linter.unusedVariables false
set_option linter.unusedSimpArgs false
open Go.RowKit

def feedV (xs : List (Int × Int × Int)) : List Value := xs.flatMap fun x => [.int .u8 x.1, .int .i64 x.2.1, .int .i64 x.2.2]
theorem feedV_at {xs : List (Int × Int × Int)} {i : Nat} {x : Int × Int × Int} (h : xs[i]? = some x) : (feedV xs)[i * 3]? = some (.int .u8 x.1) ∧ (feedV xs)[i * 3 + 1]? = some (.int .i64 x.2.1) ∧ (feedV xs)[i * 3 + 2]? = some (.int .i64 x.2.2) := by
  induction xs generalizing i with
  | nil => simp at h
  | cons y t ih =>
    cases i with
    | zero => simp at h; subst h; exact ⟨rfl, rfl, rfl⟩
    | succ i =>
      have := ih (i := i) (by simpa using h)
      rw [show (i + 1) * 3 = i * 3 + 3 by omega]
      exact this
instance (x : Int × Int × Int) : Decidable (FeedOk x) := by unfold FeedOk; infer_instance
theorem feeds_new (w : World) (xs : List (Int × Int × Int)) (cs : Array Value) (t : TypeId) (h : cs = (feedV xs).toArray) : FeedsAt (w.alloc (.cells cs t)) (some ⟨w.heap.size, 0, none⟩) xs := fun i x hx => by
  obtain ⟨h1, h2, h3⟩ := feedV_at hx
  subst h
  refine ⟨w.heap.size, 0, rfl, ?_, ?_, ?_⟩
  · rw [Nat.zero_add]; exact (Cell.new (by simpa using h1)).cell
  · rw [Nat.zero_add]; exact (Cell.new (by simpa using h2)).cell
  · rw [Nat.zero_add]; exact (Cell.new (by simpa using h3)).cell

/-- Fold of feeds that have just been laid, at a snapshot and with an answer that are known. -/
theorem fold_new (s : Sn) (xs : List (Int × Int × Int)) (n : Nat) (hn : xs.length = n) (hk : ∀ x ∈ xs, FeedOk x) (hl : n ≤ 4398046511104) (cs : Array Value) (t : TypeId) (hcs : cs = (feedV xs).toArray) (v : Value) (hv : foldV s (foldP s xs) = v) (w : World) :
    Calls Try.prog 54 #[s.v, .slice (some ⟨w.heap.size, 0, none⟩) n n] (w.alloc (.cells cs t)) fun e w' => e = .returned v ∧ Only (fun _ => False) (w.alloc (.cells cs t)) w' := by
  have h := s_fold s (some ⟨w.heap.size, 0, none⟩) n n xs hn hk hl (w.alloc (.cells cs t)) (feeds_new w xs cs t hcs)
  rw [hv] at h
  exact h

theorem works_f1 (w : World) (g : Nat) (hg : g = w.heap.size) : Calls Try.prog 54 #[.agg #[.int .i64 0, .int .i64 0, .int .i64 0, .int .i64 0, .int .i64 0, .int .i64 0], .slice (some ⟨g, 0, none⟩) 3 3] (w.alloc (.cells #[.int .u8 1, .int .i64 10, .int .i64 0, .int .u8 3, .int .i64 10, .int .i64 5, .int .u8 4, .int .i64 3, .int .i64 0] 158))
    fun e w' => e = .returned (.tuple #[.agg #[.int .i64 10, .int .i64 0, .int .i64 10, .int .i64 5, .int .i64 3, .int .i64 0], .int .u16 58, .int .i64 0]) ∧ Only (fun _ => False) (w.alloc (.cells #[.int .u8 1, .int .i64 10, .int .i64 0, .int .u8 3, .int .i64 10, .int .i64 5, .int .u8 4, .int .i64 3, .int .i64 0] 158)) w' := by
  subst hg
  exact fold_new Sn.zero [(1, 10, 0), (3, 10, 5), (4, 3, 0)] 3 rfl (by decide) (by decide) _ _ rfl _ (by kernel_rfl) w

theorem works_f2 (w : World) (g : Nat) (hg : g = w.heap.size) : Calls Try.prog 54 #[.agg #[.int .i64 0, .int .i64 0, .int .i64 0, .int .i64 0, .int .i64 0, .int .i64 0], .slice (some ⟨g, 0, none⟩) 2 2] (w.alloc (.cells #[.int .u8 1, .int .i64 10, .int .i64 0, .int .u8 1, .int .i64 0, .int .i64 0] 158))
    fun e w' => e = .returned (.tuple #[.agg #[.int .i64 0, .int .i64 0, .int .i64 0, .int .i64 0, .int .i64 0, .int .i64 0], .int .u16 0, .int .i64 0]) ∧ Only (fun _ => False) (w.alloc (.cells #[.int .u8 1, .int .i64 10, .int .i64 0, .int .u8 1, .int .i64 0, .int .i64 0] 158)) w' := by
  subst hg
  exact fold_new Sn.zero [(1, 10, 0), (1, 0, 0)] 2 rfl (by decide) (by decide) _ _ rfl _ (by kernel_rfl) w
theorem works_f3 (w : World) (g : Nat) (hg : g = w.heap.size) : Calls Try.prog 54 #[.agg #[.int .i64 0, .int .i64 0, .int .i64 0, .int .i64 0, .int .i64 0, .int .i64 0], .slice (some ⟨g, 0, none⟩) 1 1] (w.alloc (.cells #[.int .u8 5, .int .i64 (-1), .int .i64 0] 158))
    fun e w' => e = .returned (.tuple #[.agg #[.int .i64 0, .int .i64 0, .int .i64 0, .int .i64 0, .int .i64 0, .int .i64 0], .int .u16 0, .int .i64 100]) ∧ Only (fun _ => False) (w.alloc (.cells #[.int .u8 5, .int .i64 (-1), .int .i64 0] 158)) w' := by
  subst hg
  exact fold_new Sn.zero [(5, -1, 0)] 1 rfl (by decide) (by decide) _ _ rfl _ (by kernel_rfl) w

open Go.Proofs.YtiiflgihjnlmcaaW.PrintWords Go.Proofs.YtiiflgihjnlmcaaW.PrintLast Go.Proofs.YtiiflgihjnlmcaaW.PrintMore Go.Proofs.Ytiiflgihjnlmcaa.PSnapFeeds

theorem flat_at {α : Type} {enc : α → List Value} {sz : Nat} (hsz : ∀ x, (enc x).length = sz) {xs : List α} {j : Nat} {x : α} (h : xs[j]? = some x) {i : Nat} {u : Value} (hu : (enc x)[i]? = some u) : (xs.flatMap enc)[j * sz + i]? = some u := by
  induction xs generalizing j with
  | nil => simp at h
  | cons y t ih =>
    rw [List.flatMap_cons]
    have hi : i < sz := by rw [← hsz x]; exact (List.getElem?_eq_some_iff.1 hu).1
    cases j with
    | zero =>
      simp at h; subst h
      rw [Nat.zero_mul, Nat.zero_add, List.getElem?_append_left (by rw [hsz]; exact hi)]
      exact hu
    | succ j =>
      have := ih (j := j) (by simpa using h)
      rw [List.getElem?_append_right (by rw [hsz, Nat.succ_mul]; omega), hsz, show (j + 1) * sz + i - sz = j * sz + i by rw [Nat.succ_mul]; omega]
      exact this

theorem C_new {α : Type} (d : Kd α) (enc : α → List Value) (henc : ∀ w x, d.K w x (enc x)) (w : World) (xs : List α) (cs : Array Value) (t : TypeId) (h : cs = (xs.flatMap enc).toArray) (hn : xs.length ≤ 9223372036854775807) : d.C (w.alloc (.cells cs t)) (some ⟨w.heap.size, 0, none⟩) xs.length xs := by
  refine ⟨rfl, hn, fun _ => ⟨_, rfl, fun j p hj => ⟨enc p, d.K_len (henc w p), henc _ p, fun i u hu => ?_⟩⟩⟩
  subst h
  have := flat_at (enc := enc) (sz := d.sz) (fun x => d.K_len (henc w x)) hj hu
  rw [show (⟨w.heap.size, 0, none⟩ : Addr).add (j * d.sz + i) = ⟨w.heap.size, j * d.sz + i, none⟩ by unfold Addr.add; split <;> simp_all]
  exact (Cell.new (by simpa using this)).cell

/-- Feeds of one trade, as the chapter has it. -/
def FeedsPost (w : World) (e : Ending) (w' : World) : Prop := ∃ A c, e = .returned (.slice A 3 c) ∧ 3 ≤ c ∧ Kd.C k158 w' A 3 [⟨3, 10, 5⟩, ⟨5, -5, 0⟩, ⟨1, 9, 0⟩] ∧ Only (fun _ => False) w w'
theorem works_feeds (w : World) (g : Nat) (hg : g = w.heap.size) : Calls Try.prog 58 #[.agg #[.int .i64 0, .int .i64 0, .int .i64 0, .int .i64 0], .agg #[.int .i64 9, .int .i64 0, .int .i64 0, .int .i64 0], .int .i64 2, .slice (some ⟨g, 0, none⟩) 1 1]
    (w.alloc (.cells #[.int .u8 2, .int .i64 1, .int .i64 0, .int .i64 1, .int .i64 2, .int .u8 0, .int .i64 10, .int .i64 5, .int .i64 0] 161)) (FeedsPost (w.alloc (.cells #[.int .u8 2, .int .i64 1, .int .i64 0, .int .i64 1, .int .i64 2, .int .u8 0, .int .i64 10, .int .i64 5, .int .i64 0] 161))) := by
  subst hg
  have hC := C_new k161 _ (fun w x => k161_mk w x) w [⟨2, 1, 0, 1, 2, 0, 10, 5, 0⟩] _ 161 rfl (by decide)
  refine (snap_Feeds.calls 5 0 0 0 0 9 0 0 0 2 (some ⟨w.heap.size, 0, none⟩) 1 [⟨2, 1, 0, 1, 2, 0, 10, 5, 0⟩] [⟨3, 10, 5⟩, ⟨5, -5, 0⟩, ⟨1, 9, 0⟩] _ hC (by decide) (by kernel_rfl)).mono fun e w' h => ?_
  obtain ⟨v, he, hR, hB⟩ := h
  obtain ⟨A, c, rfl, hc, hC⟩ := Kd.R_reads hR
  exact ⟨A, c, he, hc, hC, Only.of_below hB⟩
theorem works_same (A : Option Addr) (c : Nat) (hc : 3 ≤ c) (w : World) (g : Nat) (hg : g = w.heap.size) (h : Kd.C k158 w A 3 [⟨3, 10, 5⟩, ⟨5, -5, 0⟩, ⟨1, 9, 0⟩]) :
    Calls Try.prog 61 #[.slice A 3 c, .slice (some ⟨g, 0, none⟩) 3 3] (w.alloc (.cells #[.int .u8 3, .int .i64 10, .int .i64 5, .int .u8 5, .int .i64 (-5), .int .i64 0, .int .u8 1, .int .i64 9, .int .i64 0] 158))
      fun e w' => e = .returned (.bool true) ∧ Only (fun _ => False) (w.alloc (.cells #[.int .u8 3, .int .i64 10, .int .i64 5, .int .u8 5, .int .i64 (-5), .int .i64 0, .int .u8 1, .int .i64 9, .int .i64 0] 158)) w' := by
  subst hg
  have hC := C_new k158 _ (fun w x => k158_mk w x) w [⟨3, 10, 5⟩, ⟨5, -5, 0⟩, ⟨1, 9, 0⟩] _ 158 rfl (by decide)
  refine (tripwireref00_SameFeeds.calls 5 A c [⟨3, 10, 5⟩, ⟨5, -5, 0⟩, ⟨1, 9, 0⟩] (some ⟨w.heap.size, 0, none⟩) 3 [⟨3, 10, 5⟩, ⟨5, -5, 0⟩, ⟨1, 9, 0⟩] true _ (Kd.C_alloc h _) hc hC (by decide) (by kernel_rfl)).mono fun e w' h => ?_
  obtain ⟨he, n, rfl⟩ := h
  exact ⟨he, (Only.refl _ _).drewN _⟩

set_option maxHeartbeats 4000000 in
set_option maxRecDepth 100000 in
theorem snap_works (w : World) : Calls Try.prog 44 #[] w fun e w' => e = .returned (.bool true) ∧ Only (fun _ => False) w w' := by
  have H4 := Lib.hid s_get4
  have H5 := Lib.hid s_name5
  have HD := Lib.hid s_diff
  have HC := Lib.hid s_check
  go_enter Try.func44, Try.ntmps44
  go_wp2_with fail
  refine (works_f1 _ _ (by simp)).mono ?_
  rintro e w1 ⟨rfl, o1⟩
  have p1 : Only (fun _ => False) w w1 := by repeat' (first | (with_reducible exact Only.refl _ _) | (with_reducible assumption) | (refine Only.of_none ?_; with_reducible assumption) | (with_reducible refine Only.drewN ?_ _) | (with_reducible refine Only.drew ?_) | (with_reducible refine Only.alloc ?_ _) | (with_reducible refine Only.setCell ?_ ?_ _) | (with_reducible refine Only.then0 ?_ (by with_reducible assumption)) | (with_reducible refine Only.thenN ?_ (by with_reducible assumption) ?_) | (with_reducible refine Only.trans ?_ (by with_reducible assumption)) | (refine .inl ?_; first | rfl | (simp; done) | (simp [Ar.blk]; done)) | (refine .inr ?_; first | omega | (simp; done) | (simp; omega) | exact Only.size (by with_reducible assumption) | (refine Nat.le_trans (Only.size (by with_reducible assumption)) ?_; simp; done)))
  have SX : ∀ W, Only (fun _ => False) (w1.alloc (.cells #[.int .i64 10, .int .i64 0, .int .i64 10, .int .i64 5, .int .i64 3, .int .i64 0] 70)) W → ∀ k v, (#[.int .i64 10, .int .i64 0, .int .i64 10, .int .i64 5, .int .i64 3, .int .i64 0] : Array Value)[k]? = some v → W.cell? ⟨w1.heap.size, k, none⟩ = some v := fun W o k v hv => ((Cell.new hv).only o id).cell
  clear o1
  go_wp2_with fail
  refine (works_f2 _ _ (by simp)).mono ?_
  rintro e w2 ⟨rfl, o2⟩
  have p2 : Only (fun _ => False) (w1.alloc (.cells #[.int .i64 10, .int .i64 0, .int .i64 10, .int .i64 5, .int .i64 3, .int .i64 0] 70)) w2 := by repeat' (first | (with_reducible exact Only.refl _ _) | (with_reducible assumption) | (refine Only.of_none ?_; with_reducible assumption) | (with_reducible refine Only.drewN ?_ _) | (with_reducible refine Only.drew ?_) | (with_reducible refine Only.alloc ?_ _) | (with_reducible refine Only.setCell ?_ ?_ _) | (with_reducible refine Only.then0 ?_ (by with_reducible assumption)) | (with_reducible refine Only.thenN ?_ (by with_reducible assumption) ?_) | (with_reducible refine Only.trans ?_ (by with_reducible assumption)) | (refine .inl ?_; first | rfl | (simp; done) | (simp [Ar.blk]; done)) | (refine .inr ?_; first | omega | (simp; done) | (simp; omega) | exact Only.size (by with_reducible assumption) | (refine Nat.le_trans (Only.size (by with_reducible assumption)) ?_; simp; done)))
  go_wp2_with fail
  refine (works_f3 _ _ (by simp)).mono ?_
  rintro e w3 ⟨rfl, o3⟩
  have p3 : Only (fun _ => False) w2 w3 := by repeat' (first | (with_reducible exact Only.refl _ _) | (with_reducible assumption) | (refine Only.of_none ?_; with_reducible assumption) | (with_reducible refine Only.drewN ?_ _) | (with_reducible refine Only.drew ?_) | (with_reducible refine Only.alloc ?_ _) | (with_reducible refine Only.setCell ?_ ?_ _) | (with_reducible refine Only.then0 ?_ (by with_reducible assumption)) | (with_reducible refine Only.thenN ?_ (by with_reducible assumption) ?_) | (with_reducible refine Only.trans ?_ (by with_reducible assumption)) | (refine .inl ?_; first | rfl | (simp; done) | (simp [Ar.blk]; done)) | (refine .inr ?_; first | omega | (simp; done) | (simp; omega) | exact Only.size (by with_reducible assumption) | (refine Nat.le_trans (Only.size (by with_reducible assumption)) ?_; simp; done)))
  go_wp2_with fail
  refine (works_feeds _ _ (by simp)).mono ?_
  intro e w4 h4
  obtain ⟨A, c, rfl, hc, hC, o4⟩ := h4
  have p4 : Only (fun _ => False) w3 w4 := by repeat' (first | (with_reducible exact Only.refl _ _) | (with_reducible assumption) | (refine Only.of_none ?_; with_reducible assumption) | (with_reducible refine Only.drewN ?_ _) | (with_reducible refine Only.drew ?_) | (with_reducible refine Only.alloc ?_ _) | (with_reducible refine Only.setCell ?_ ?_ _) | (with_reducible refine Only.then0 ?_ (by with_reducible assumption)) | (with_reducible refine Only.thenN ?_ (by with_reducible assumption) ?_) | (with_reducible refine Only.trans ?_ (by with_reducible assumption)) | (refine .inl ?_; first | rfl | (simp; done) | (simp [Ar.blk]; done)) | (refine .inr ?_; first | omega | (simp; done) | (simp; omega) | exact Only.size (by with_reducible assumption) | (refine Nat.le_trans (Only.size (by with_reducible assumption)) ?_; simp; done)))
  have HCC := Lib.hid hC
  clear hC
  go_wp2_with fail
  refine (works_same A c hc _ _ (by simp) (by have := HCC.out; exact this)).mono ?_
  rintro e w5 ⟨rfl, o5⟩
  have p5 : Only (fun _ => False) w4 w5 := by repeat' (first | (with_reducible exact Only.refl _ _) | (with_reducible assumption) | (refine Only.of_none ?_; with_reducible assumption) | (with_reducible refine Only.drewN ?_ _) | (with_reducible refine Only.drew ?_) | (with_reducible refine Only.alloc ?_ _) | (with_reducible refine Only.setCell ?_ ?_ _) | (with_reducible refine Only.then0 ?_ (by with_reducible assumption)) | (with_reducible refine Only.thenN ?_ (by with_reducible assumption) ?_) | (with_reducible refine Only.trans ?_ (by with_reducible assumption)) | (refine .inl ?_; first | rfl | (simp; done) | (simp [Ar.blk]; done)) | (refine .inr ?_; first | omega | (simp; done) | (simp; omega) | exact Only.size (by with_reducible assumption) | (refine Nat.le_trans (Only.size (by with_reducible assumption)) ?_; simp; done)))
  have p15 : Only (fun _ => False) (w1.alloc (.cells #[.int .i64 10, .int .i64 0, .int .i64 10, .int .i64 5, .int .i64 3, .int .i64 0] 70)) w5 := ((p2.trans p3).trans p4).trans p5
  have a0 := SX w5 p15 0 _ rfl; have a1 := SX w5 p15 1 _ rfl; have a2 := SX w5 p15 2 _ rfl; have a3 := SX w5 p15 3 _ rfl; have a4 := SX w5 p15 4 _ rfl; have a5 := SX w5 p15 5 _ rfl
  clear HCC o2 o3 o4 o5
  go_wp2_with fail
  refine (HC.out _ _ _ _ _ _ _).mono ?_
  rintro e w6 ⟨rfl, o6⟩
  rw [show snOk 10 0 10 5 3 0 = true from by decide, if_pos rfl]
  have b0 := o6.cell a0 id; have b1 := o6.cell a1 id; have b2 := o6.cell a2 id; have b3 := o6.cell a3 id; have b4 := o6.cell a4 id; have b5 := o6.cell a5 id
  clear a0 a1 a2 a3 a4 a5
  go_wp2_with fail
  refine (H4.out _ _ _ _ _ _ _).mono ?_
  rintro e w7 ⟨rfl, o7⟩
  have c0 := o7.cell b0 id; have c1 := o7.cell b1 id; have c2 := o7.cell b2 id; have c3 := o7.cell b3 id; have c4 := o7.cell b4 id; have c5 := o7.cell b5 id
  clear b0 b1 b2 b3 b4 b5
  go_wp2_with fail
  refine (H5.out _).mono ?_
  rintro e w8 ⟨rfl, o8⟩
  have d0 := o8.cell c0 id; have d1 := o8.cell c1 id; have d2 := o8.cell c2 id; have d3 := o8.cell c3 id; have d4 := o8.cell c4 id; have d5 := o8.cell c5 id
  clear c0 c1 c2 c3 c4 c5
  go_wp2_with fail
  refine (HD.out _ _ _ _ _ _ _ _ _ _ _ _ _).mono ?_
  rintro e w9 ⟨rfl, o9⟩
  rw [show maskN (sev 10 0 10 5 3 0) (sev 0 0 0 0 0 0) 7 = 58 from by decide]
  have e0 := o9.cell d0 id; have e1 := o9.cell d1 id; have e2 := o9.cell d2 id; have e3 := o9.cell d3 id; have e4 := o9.cell d4 id; have e5 := o9.cell d5 id
  clear d0 d1 d2 d3 d4 d5
  go_wp2_with fail
  go_returns
  exact ⟨rfl, (((((p1.alloc _).trans p15).trans o6).trans o7).trans o8).trans o9⟩
end Go.Proofs.Ytiiflgihjnlmcaa
