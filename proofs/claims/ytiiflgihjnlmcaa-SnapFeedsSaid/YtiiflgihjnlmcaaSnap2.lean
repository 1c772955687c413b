/- Package snap: Diff. No condition. -/
import Derived.Test.YtiiflgihjnlmcaaSnap1
import Derived.Deep.RegionHeld3
namespace Go.Proofs.Ytiiflgihjnlmcaa
set_option linter.unusedVariables false
set_option linter.unusedSimpArgs false
open Go.RowKit

/-- The seven numbers of a snapshot. -/
def sev (x0 x1 x2 x3 x4 x5 : Int) : Nat → Int
  | 0 => 0
  | 1 => x0
  | 2 => x1
  | 3 => x2
  | 4 => x3
  | 5 => x4
  | 6 => x5
  | _ => 0
/-- An array of seven numbers lies there. -/
def Seven (w : World) (b : Nat) (f : Nat → Int) : Prop := ∀ k, k < 7 → w.cell? ⟨b, k, none⟩ = some (.int .i64 (f k))
theorem Seven.mk {w : World} {b : Nat} {x0 x1 x2 x3 x4 x5 : Int} (h0 : w.cell? ⟨b, 0, none⟩ = some (.int .i64 0)) (h1 : w.cell? ⟨b, 1, none⟩ = some (.int .i64 x0)) (h2 : w.cell? ⟨b, 2, none⟩ = some (.int .i64 x1)) (h3 : w.cell? ⟨b, 3, none⟩ = some (.int .i64 x2)) (h4 : w.cell? ⟨b, 4, none⟩ = some (.int .i64 x3)) (h5 : w.cell? ⟨b, 5, none⟩ = some (.int .i64 x4)) (h6 : w.cell? ⟨b, 6, none⟩ = some (.int .i64 x5)) : Seven w b (sev x0 x1 x2 x3 x4 x5) := by
  intro k hk
  match k, hk with
  | 0, _ => exact h0
  | 1, _ => exact h1
  | 2, _ => exact h2
  | 3, _ => exact h3
  | 4, _ => exact h4
  | 5, _ => exact h5
  | 6, _ => exact h6
/-- In which of the first fields two differ. -/
def maskN (f g : Nat → Int) : Nat → Nat
  | 0 => 0
  | k + 1 => if f k = g k then maskN f g k else maskN f g k + 2 ^ k
theorem maskN_lt (f g : Nat → Int) (k : Nat) : maskN f g k < 2 ^ k := by
  induction k with
  | zero => simp [maskN]
  | succ k ih =>
    simp only [maskN]
    have : 2 ^ (k + 1) = 2 ^ k + 2 ^ k := by rw [Nat.pow_succ]; omega
    split <;> omega

theorem bits_or_pow : ∀ k, k < 7 → ∀ m, m < 2 ^ k → bits BinOp.or IntKind.u16 (m : Nat) (IntKind.u16.wrap (2 ^ k)) = ((m + 2 ^ k : Nat) : Int) := by decide

set_option maxHeartbeats 4000000 in
set_option maxRecDepth 100000 in
theorem s_diff (x0 x1 x2 x3 x4 x5 y0 y1 y2 y3 y4 y5 : Int) (w : World) :
    Calls Try.prog 51 #[.agg #[.int .i64 x0, .int .i64 x1, .int .i64 x2, .int .i64 x3, .int .i64 x4, .int .i64 x5], .agg #[.int .i64 y0, .int .i64 y1, .int .i64 y2, .int .i64 y3, .int .i64 y4, .int .i64 y5]] w fun e w' => e = .returned (.int .u16 (maskN (sev x0 x1 x2 x3 x4 x5) (sev y0 y1 y2 y3 y4 y5) 7 : Nat)) ∧ Only (fun _ => False) w w' := by
  have HF := Lib.hid s_fields
  have hA := (Cell.new (w := w) (cs := #[.int .i64 x0, .int .i64 x1, .int .i64 x2, .int .i64 x3, .int .i64 x4, .int .i64 x5]) (t := 70) (o := 0) rfl).alloc (.cells #[.int .i64 y0, .int .i64 y1, .int .i64 y2, .int .i64 y3, .int .i64 y4, .int .i64 y5] 70)
  have cA : ∀ o v, (#[.int .i64 x0, .int .i64 x1, .int .i64 x2, .int .i64 x3, .int .i64 x4, .int .i64 x5] : Array Value)[o]? = some v → ((w.alloc (.cells #[.int .i64 x0, .int .i64 x1, .int .i64 x2, .int .i64 x3, .int .i64 x4, .int .i64 x5] 70)).alloc (.cells #[.int .i64 y0, .int .i64 y1, .int .i64 y2, .int .i64 y3, .int .i64 y4, .int .i64 y5] 70)).cell? ⟨w.heap.size, o, none⟩ = some v := fun o v h => ((Cell.new h).alloc _).cell
  have cB : ∀ o v, (#[.int .i64 y0, .int .i64 y1, .int .i64 y2, .int .i64 y3, .int .i64 y4, .int .i64 y5] : Array Value)[o]? = some v → ((w.alloc (.cells #[.int .i64 x0, .int .i64 x1, .int .i64 x2, .int .i64 x3, .int .i64 x4, .int .i64 x5] 70)).alloc (.cells #[.int .i64 y0, .int .i64 y1, .int .i64 y2, .int .i64 y3, .int .i64 y4, .int .i64 y5] 70)).cell? ⟨w.heap.size + 1, o, none⟩ = some v := fun o v h => by
    have := (Cell.new (w := w.alloc (.cells #[.int .i64 x0, .int .i64 x1, .int .i64 x2, .int .i64 x3, .int .i64 x4, .int .i64 x5] 70)) (t := 70) h).cell
    rwa [World.size_alloc] at this
  have o0 : Only (fun _ => False) w ((w.alloc (.cells #[.int .i64 x0, .int .i64 x1, .int .i64 x2, .int .i64 x3, .int .i64 x4, .int .i64 x5] 70)).alloc (.cells #[.int .i64 y0, .int .i64 y1, .int .i64 y2, .int .i64 y3, .int .i64 y4, .int .i64 y5] 70)) := by repeat' (first | (with_reducible exact Only.refl _ _) | (with_reducible assumption) | (refine Only.of_none ?_; with_reducible assumption) | (with_reducible refine Only.drewN ?_ _) | (with_reducible refine Only.drew ?_) | (with_reducible refine Only.alloc ?_ _) | (with_reducible refine Only.setCell ?_ ?_ _) | (with_reducible refine Only.then0 ?_ (by with_reducible assumption)) | (with_reducible refine Only.thenN ?_ (by with_reducible assumption) ?_) | (with_reducible refine Only.trans ?_ (by with_reducible assumption)) | (refine .inl ?_; first | rfl | (simp; done) | (simp [Ar.blk]; done)) | (refine .inr ?_; first | omega | (simp; done) | (simp; omega) | exact Only.size (by with_reducible assumption) | (refine Nat.le_trans (Only.size (by with_reducible assumption)) ?_; simp; done)))
  clear hA
  go_enter Try.func51, Try.ntmps51
  go_upto_region 1 with fail
  obtain ⟨W0, hW0⟩ : ∃ W0, ((w.alloc (.cells #[.int .i64 x0, .int .i64 x1, .int .i64 x2, .int .i64 x3, .int .i64 x4, .int .i64 x5] 70)).alloc (.cells #[.int .i64 y0, .int .i64 y1, .int .i64 y2, .int .i64 y3, .int .i64 y4, .int .i64 y5] 70)) = W0 := ⟨_, rfl⟩
  rw [hW0] at cA cB o0 ⊢
  clear hW0
  have a0 := cA 0 _ rfl; have a1 := cA 1 _ rfl; have a2 := cA 2 _ rfl; have a3 := cA 3 _ rfl; have a4 := cA 4 _ rfl; have a5 := cA 5 _ rfl
  have b0 := cB 0 _ rfl; have b1 := cB 1 _ rfl; have b2 := cB 2 _ rfl; have b3 := cB 3 _ rfl; have b4 := cB 4 _ rfl; have b5 := cB 5 _ rfl
  obtain ⟨gA, hgA⟩ : ∃ gA, w.heap.size = gA := ⟨_, rfl⟩
  rw [hgA] at a0 a1 a2 a3 a4 a5 b0 b1 b2 b3 b4 b5 ⊢
  clear cA cB hgA
  have z1 := cell_lt a0
  have z2 := cell_lt b0
  go_cut [5, 6] (fun s5 s6 wc => ∃ g1 g2, s5 = .pointer (some ⟨g1, 0, none⟩) ∧ s6 = .pointer (some ⟨g2, 0, none⟩) ∧ Seven wc g1 (sev x0 x1 x2 x3 x4 x5) ∧ Seven wc g2 (sev y0 y1 y2 y3 y4 y5) ∧ Only (fun _ => False) w wc)
  case first =>
    have KEEP := fun W (o : Only (fun _ => False) W0 W) => Lib.hid (show W.cell? ⟨gA, 0, none⟩ = some (.int .i64 x0) ∧ W.cell? ⟨gA, 1, none⟩ = some (.int .i64 x1) ∧ W.cell? ⟨gA, 2, none⟩ = some (.int .i64 x2) ∧ W.cell? ⟨gA, 3, none⟩ = some (.int .i64 x3) ∧ W.cell? ⟨gA, 4, none⟩ = some (.int .i64 x4) ∧ W.cell? ⟨gA, 5, none⟩ = some (.int .i64 x5) ∧ W.cell? ⟨gA + 1, 0, none⟩ = some (.int .i64 y0) ∧ W.cell? ⟨gA + 1, 1, none⟩ = some (.int .i64 y1) ∧ W.cell? ⟨gA + 1, 2, none⟩ = some (.int .i64 y2) ∧ W.cell? ⟨gA + 1, 3, none⟩ = some (.int .i64 y3) ∧ W.cell? ⟨gA + 1, 4, none⟩ = some (.int .i64 y4) ∧ W.cell? ⟨gA + 1, 5, none⟩ = some (.int .i64 y5) from ⟨o.cell a0 id, o.cell a1 id, o.cell a2 id, o.cell a3 id, o.cell a4 id, o.cell a5 id, o.cell b0 id, o.cell b1 id, o.cell b2 id, o.cell b3 id, o.cell b4 id, o.cell b5 id⟩)
    go_region_held3 (fun W => W.cell? ⟨gA, 0, none⟩ = some (.int .i64 x0) ∧ W.cell? ⟨gA, 1, none⟩ = some (.int .i64 x1) ∧ W.cell? ⟨gA, 2, none⟩ = some (.int .i64 x2) ∧ W.cell? ⟨gA, 3, none⟩ = some (.int .i64 x3) ∧ W.cell? ⟨gA, 4, none⟩ = some (.int .i64 x4) ∧ W.cell? ⟨gA, 5, none⟩ = some (.int .i64 x5) ∧ W.cell? ⟨gA + 1, 0, none⟩ = some (.int .i64 y0) ∧ W.cell? ⟨gA + 1, 1, none⟩ = some (.int .i64 y1) ∧ W.cell? ⟨gA + 1, 2, none⟩ = some (.int .i64 y2) ∧ W.cell? ⟨gA + 1, 3, none⟩ = some (.int .i64 y3) ∧ W.cell? ⟨gA + 1, 4, none⟩ = some (.int .i64 y4) ∧ W.cell? ⟨gA + 1, 5, none⟩ = some (.int .i64 y5)) (first | exact (KEEP _ (by repeat' (first | (with_reducible exact Only.refl _ _) | (with_reducible assumption) | (refine Only.of_none ?_; with_reducible assumption) | (with_reducible refine Only.drewN ?_ _) | (with_reducible refine Only.drew ?_) | (with_reducible refine Only.alloc ?_ _) | (with_reducible refine Only.setCell ?_ ?_ _) | (with_reducible refine Only.then0 ?_ (by with_reducible assumption)) | (with_reducible refine Only.thenN ?_ (by with_reducible assumption) ?_) | (with_reducible refine Only.trans ?_ (by with_reducible assumption)) | (refine .inl ?_; first | rfl | (simp; done) | (simp [Ar.blk]; done)) | (refine .inr ?_; first | omega | (simp; done) | (simp; omega) | exact Only.size (by with_reducible assumption) | (refine Nat.le_trans (Only.size (by with_reducible assumption)) ?_; simp; done))))).out | (refine (KEEP _ ?_).out; repeat' (first | (with_reducible exact Only.refl _ _) | (with_reducible assumption) | (refine Only.of_none ?_; with_reducible assumption) | (with_reducible refine Only.drewN ?_ _) | (with_reducible refine Only.drew ?_) | (with_reducible refine Only.alloc ?_ _) | (with_reducible refine Only.setCell ?_ ?_ _) | (with_reducible refine Only.then0 ?_ (by with_reducible assumption)) | (with_reducible refine Only.thenN ?_ (by with_reducible assumption) ?_) | (with_reducible refine Only.trans ?_ (by with_reducible assumption)) | (refine .inl ?_; first | rfl | (simp; done) | (simp [Ar.blk]; done)) | (refine .inr ?_; first | omega | (simp; done) | (simp; omega) | exact Only.size (by with_reducible assumption) | (refine Nat.le_trans (Only.size (by with_reducible assumption)) ?_; simp; done))); done))
      (first | (go_at_call 97; refine (HF.out _ _ _ _ _ _ _).mono ?_; rintro e w' ⟨rfl, rfl⟩))
    all_goals
      go_wp2_with fail
      go_meet
      refine ⟨_, _, rfl, rfl, Seven.mk ?_ ?_ ?_ ?_ ?_ ?_ ?_, Seven.mk ?_ ?_ ?_ ?_ ?_ ?_ ?_, by repeat' (first | (with_reducible exact Only.refl _ _) | (with_reducible assumption) | (refine Only.of_none ?_; with_reducible assumption) | (with_reducible refine Only.drewN ?_ _) | (with_reducible refine Only.drew ?_) | (with_reducible refine Only.alloc ?_ _) | (with_reducible refine Only.setCell ?_ ?_ _) | (with_reducible refine Only.then0 ?_ (by with_reducible assumption)) | (with_reducible refine Only.thenN ?_ (by with_reducible assumption) ?_) | (with_reducible refine Only.trans ?_ (by with_reducible assumption)) | (refine .inl ?_; first | rfl | (simp; done) | (simp [Ar.blk]; done)) | (refine .inr ?_; first | omega | (simp; done) | (simp; omega) | exact Only.size (by with_reducible assumption) | (refine Nat.le_trans (Only.size (by with_reducible assumption)) ?_; simp; done)))⟩ <;> simp [go_sem]
  case rest =>
    obtain ⟨g1, g2, rfl, rfl, h1, h2, ho⟩ := hcut
    clear a0 a1 a2 a3 a4 a5 b0 b1 b2 b3 b4 b5 z1 z2 HF o0
    obtain ⟨f, hf⟩ : ∃ f, sev x0 x1 x2 x3 x4 x5 = f := ⟨_, rfl⟩
    obtain ⟨g, hg⟩ : ∃ g, sev y0 y1 y2 y3 y4 y5 = g := ⟨_, rfl⟩
    rw [hf] at h1
    rw [hg] at h2
    have HFE := Lib.hid hf
    have HGE := Lib.hid hg
    clear hf hg
    have H1 := Lib.hid h1
    have H2 := Lib.hid h2
    clear h1 h2
    go_wp2_with fail
    go_loopw [4, 12] (fun s4 s wr => ∃ k : Nat, k ≤ 7 ∧ s = .int .i64 k ∧ s4 = .int .u16 (maskN f g k : Nat) ∧ Only (fun _ => False) wc wr) (fun _ s _ => 7 - (intOf s).toNat)
    case atStart => exact ⟨0, by omega, rfl, rfl, Only.refl _ _⟩
    case round =>
      obtain ⟨k, hk, rfl, rfl, hr⟩ := hrel
      by_cases hlt : k < 7
      · have t1 : decide (k < 7) = true := by simpa using hlt
        have c1 := hr.cell (H1.out k hlt) id
        have c2 := hr.cell (H2.out k hlt) id
        have i1 : (0 : Int) ≤ (k : Int) ∧ (k : Int) < 7 := by omega
        have hm := maskN_lt f g k
        obtain ⟨m, hm2⟩ : ∃ m, m = maskN f g k := ⟨_, rfl⟩
        rw [← hm2]
        have HM := Lib.hid hm2
        clear hm hm2
        by_cases he : f k = g k
        · have t2 : (f k != g k) = false := by simpa using he
          have HE := Lib.hid he
          clear he
          go_wp2_with fail
          go_quiet (fail)
          go_wp2_with fail
          go_roundw
          case rel => exact ⟨k + 1, by omega, by go_num, by rw [maskN, if_pos HE.out, HM.out], by repeat' (first | (with_reducible exact Only.refl _ _) | (with_reducible assumption) | (refine Only.of_none ?_; with_reducible assumption) | (with_reducible refine Only.drewN ?_ _) | (with_reducible refine Only.drew ?_) | (with_reducible refine Only.alloc ?_ _) | (with_reducible refine Only.setCell ?_ ?_ _) | (with_reducible refine Only.then0 ?_ (by with_reducible assumption)) | (with_reducible refine Only.thenN ?_ (by with_reducible assumption) ?_) | (with_reducible refine Only.trans ?_ (by with_reducible assumption)) | (refine .inl ?_; first | rfl | (simp; done) | (simp [Ar.blk]; done)) | (refine .inr ?_; first | omega | (simp; done) | (simp; omega) | exact Only.size (by with_reducible assumption) | (refine Nat.le_trans (Only.size (by with_reducible assumption)) ?_; simp; done)))⟩
          case measure => simp [intOf]; omega
        · have t2 : (f k != g k) = true := by simpa using he
          have HE := Lib.hid he
          clear he
          go_wp2_with fail
          go_quiet (fail)
          go_wp2_with fail
          go_roundw
          case rel => exact ⟨k + 1, by omega, by go_num, by rw [maskN, if_neg HE.out, ← HM.out, bits_or_pow k hlt m (by rw [HM.out]; exact maskN_lt f g k)], by repeat' (first | (with_reducible exact Only.refl _ _) | (with_reducible assumption) | (refine Only.of_none ?_; with_reducible assumption) | (with_reducible refine Only.drewN ?_ _) | (with_reducible refine Only.drew ?_) | (with_reducible refine Only.alloc ?_ _) | (with_reducible refine Only.setCell ?_ ?_ _) | (with_reducible refine Only.then0 ?_ (by with_reducible assumption)) | (with_reducible refine Only.thenN ?_ (by with_reducible assumption) ?_) | (with_reducible refine Only.trans ?_ (by with_reducible assumption)) | (refine .inl ?_; first | rfl | (simp; done) | (simp [Ar.blk]; done)) | (refine .inr ?_; first | omega | (simp; done) | (simp; omega) | exact Only.size (by with_reducible assumption) | (refine Nat.le_trans (Only.size (by with_reducible assumption)) ?_; simp; done)))⟩
          case measure => simp [intOf]; omega
      · have t1 : decide (k < 7) = false := by simpa using hlt
        obtain rfl : k = 7 := by omega
        go_wp2_with fail
        go_returns
        exact ⟨by rw [HFE.out, HGE.out]; rfl, by repeat' (first | (with_reducible exact Only.refl _ _) | (with_reducible assumption) | (refine Only.of_none ?_; with_reducible assumption) | (with_reducible refine Only.drewN ?_ _) | (with_reducible refine Only.drew ?_) | (with_reducible refine Only.alloc ?_ _) | (with_reducible refine Only.setCell ?_ ?_ _) | (with_reducible refine Only.then0 ?_ (by with_reducible assumption)) | (with_reducible refine Only.thenN ?_ (by with_reducible assumption) ?_) | (with_reducible refine Only.trans ?_ (by with_reducible assumption)) | (refine .inl ?_; first | rfl | (simp; done) | (simp [Ar.blk]; done)) | (refine .inr ?_; first | omega | (simp; done) | (simp; omega) | exact Only.size (by with_reducible assumption) | (refine Nat.le_trans (Only.size (by with_reducible assumption)) ?_; simp; done)))⟩
end Go.Proofs.Ytiiflgihjnlmcaa
