/- The document's meter: New. No condition. -/
import Derived.Test.YtiiflgihjnlmcaaMeter5
import Derived.Test.YtiiflgihjnlmcaaQuota4
import Derived.Test.YtiiflgihjnlmcaaSlots8
namespace Go.Proofs.Ytiiflgihjnlmcaa
set_option linter.unusedVariables false
set_option linter.unusedSimpArgs false
open Go.RowKit

set_option maxHeartbeats 4000000 in
set_option maxRecDepth 100000 in
theorem r_new_no (x0 x1 x2 x3 x4 x5 x6 x7 x8 x9 x10 x11 x12 x13 x14 : Int) (w : World) (h : CfgOk x0 x11 x13 x14 = false) :
    Calls Try.prog 25 #[.agg #[.int .i64 x0, .int .i64 x1, .int .i64 x2, .int .i64 x3, .int .i64 x4, .int .i64 x5, .int .i64 x6, .int .i64 x7, .int .i64 x8, .int .i64 x9, .int .i64 x10, .int .i64 x11, .int .i64 x12, .int .i64 x13, .int .i64 x14]] w fun e w' => e = .returned (.tuple #[.pointer none, .int .i64 1]) ∧ Only (fun _ => False) w w' := by
  by_cases h0 : x0 < 1
  · have t0 : decide (x0 < 1) = true := by simpa using h0
    clear h
    go_enter Try.func25, Try.ntmps25
    go_wp2
    go_returns
    exact ⟨rfl, by repeat' (first | (with_reducible exact Only.refl _ _) | (with_reducible assumption) | (refine Only.of_none ?_; with_reducible assumption) | (with_reducible refine Only.drewN ?_ _) | (with_reducible refine Only.drew ?_) | (with_reducible refine Only.alloc ?_ _) | (with_reducible refine Only.setCell ?_ ?_ _) | (with_reducible refine Only.then0 ?_ (by with_reducible assumption)) | (with_reducible refine Only.thenN ?_ (by with_reducible assumption) ?_) | (with_reducible refine Only.trans ?_ (by with_reducible assumption)) | (refine .inl ?_; first | rfl | (simp; done) | (simp [Ar.blk]; done)) | (refine .inr ?_; first | omega | (simp; done) | (simp; omega) | exact Only.size (by with_reducible assumption) | (refine Nat.le_trans (Only.size (by with_reducible assumption)) ?_; simp; done)))⟩
  have t0 : decide (x0 < 1) = false := by simpa using h0
  by_cases h1 : 8 < x0
  · have t1 : decide (8 < x0) = true := by simpa using h1
    clear h
    go_enter Try.func25, Try.ntmps25
    go_wp2
    go_returns
    exact ⟨rfl, by repeat' (first | (with_reducible exact Only.refl _ _) | (with_reducible assumption) | (refine Only.of_none ?_; with_reducible assumption) | (with_reducible refine Only.drewN ?_ _) | (with_reducible refine Only.drew ?_) | (with_reducible refine Only.alloc ?_ _) | (with_reducible refine Only.setCell ?_ ?_ _) | (with_reducible refine Only.then0 ?_ (by with_reducible assumption)) | (with_reducible refine Only.thenN ?_ (by with_reducible assumption) ?_) | (with_reducible refine Only.trans ?_ (by with_reducible assumption)) | (refine .inl ?_; first | rfl | (simp; done) | (simp [Ar.blk]; done)) | (refine .inr ?_; first | omega | (simp; done) | (simp; omega) | exact Only.size (by with_reducible assumption) | (refine Nat.le_trans (Only.size (by with_reducible assumption)) ?_; simp; done)))⟩
  have t1 : decide (8 < x0) = false := by simpa using h1
  by_cases h2 : x11 < 0
  · have t2 : decide (x11 < 0) = true := by simpa using h2
    clear h
    go_enter Try.func25, Try.ntmps25
    go_wp2
    go_returns
    exact ⟨rfl, by repeat' (first | (with_reducible exact Only.refl _ _) | (with_reducible assumption) | (refine Only.of_none ?_; with_reducible assumption) | (with_reducible refine Only.drewN ?_ _) | (with_reducible refine Only.drew ?_) | (with_reducible refine Only.alloc ?_ _) | (with_reducible refine Only.setCell ?_ ?_ _) | (with_reducible refine Only.then0 ?_ (by with_reducible assumption)) | (with_reducible refine Only.thenN ?_ (by with_reducible assumption) ?_) | (with_reducible refine Only.trans ?_ (by with_reducible assumption)) | (refine .inl ?_; first | rfl | (simp; done) | (simp [Ar.blk]; done)) | (refine .inr ?_; first | omega | (simp; done) | (simp; omega) | exact Only.size (by with_reducible assumption) | (refine Nat.le_trans (Only.size (by with_reducible assumption)) ?_; simp; done)))⟩
  have t2 : decide (x11 < 0) = false := by simpa using h2
  by_cases h3 : 8 < x11
  · have t3 : decide (8 < x11) = true := by simpa using h3
    clear h
    go_enter Try.func25, Try.ntmps25
    go_wp2
    go_returns
    exact ⟨rfl, by repeat' (first | (with_reducible exact Only.refl _ _) | (with_reducible assumption) | (refine Only.of_none ?_; with_reducible assumption) | (with_reducible refine Only.drewN ?_ _) | (with_reducible refine Only.drew ?_) | (with_reducible refine Only.alloc ?_ _) | (with_reducible refine Only.setCell ?_ ?_ _) | (with_reducible refine Only.then0 ?_ (by with_reducible assumption)) | (with_reducible refine Only.thenN ?_ (by with_reducible assumption) ?_) | (with_reducible refine Only.trans ?_ (by with_reducible assumption)) | (refine .inl ?_; first | rfl | (simp; done) | (simp [Ar.blk]; done)) | (refine .inr ?_; first | omega | (simp; done) | (simp; omega) | exact Only.size (by with_reducible assumption) | (refine Nat.le_trans (Only.size (by with_reducible assumption)) ?_; simp; done)))⟩
  have t3 : decide (8 < x11) = false := by simpa using h3
  by_cases h4 : x13 < 0
  · have t4 : decide (x13 < 0) = true := by simpa using h4
    clear h
    go_enter Try.func25, Try.ntmps25
    go_wp2
    go_returns
    exact ⟨rfl, by repeat' (first | (with_reducible exact Only.refl _ _) | (with_reducible assumption) | (refine Only.of_none ?_; with_reducible assumption) | (with_reducible refine Only.drewN ?_ _) | (with_reducible refine Only.drew ?_) | (with_reducible refine Only.alloc ?_ _) | (with_reducible refine Only.setCell ?_ ?_ _) | (with_reducible refine Only.then0 ?_ (by with_reducible assumption)) | (with_reducible refine Only.thenN ?_ (by with_reducible assumption) ?_) | (with_reducible refine Only.trans ?_ (by with_reducible assumption)) | (refine .inl ?_; first | rfl | (simp; done) | (simp [Ar.blk]; done)) | (refine .inr ?_; first | omega | (simp; done) | (simp; omega) | exact Only.size (by with_reducible assumption) | (refine Nat.le_trans (Only.size (by with_reducible assumption)) ?_; simp; done)))⟩
  have t4 : decide (x13 < 0) = false := by simpa using h4
  by_cases h5 : 1000000 < x13
  · have t5 : decide (1000000 < x13) = true := by simpa using h5
    clear h
    go_enter Try.func25, Try.ntmps25
    go_wp2
    go_returns
    exact ⟨rfl, by repeat' (first | (with_reducible exact Only.refl _ _) | (with_reducible assumption) | (refine Only.of_none ?_; with_reducible assumption) | (with_reducible refine Only.drewN ?_ _) | (with_reducible refine Only.drew ?_) | (with_reducible refine Only.alloc ?_ _) | (with_reducible refine Only.setCell ?_ ?_ _) | (with_reducible refine Only.then0 ?_ (by with_reducible assumption)) | (with_reducible refine Only.thenN ?_ (by with_reducible assumption) ?_) | (with_reducible refine Only.trans ?_ (by with_reducible assumption)) | (refine .inl ?_; first | rfl | (simp; done) | (simp [Ar.blk]; done)) | (refine .inr ?_; first | omega | (simp; done) | (simp; omega) | exact Only.size (by with_reducible assumption) | (refine Nat.le_trans (Only.size (by with_reducible assumption)) ?_; simp; done)))⟩
  have t5 : decide (1000000 < x13) = false := by simpa using h5
  by_cases h6 : x14 < 1
  · have t6 : decide (x14 < 1) = true := by simpa using h6
    clear h
    go_enter Try.func25, Try.ntmps25
    go_wp2
    go_returns
    exact ⟨rfl, by repeat' (first | (with_reducible exact Only.refl _ _) | (with_reducible assumption) | (refine Only.of_none ?_; with_reducible assumption) | (with_reducible refine Only.drewN ?_ _) | (with_reducible refine Only.drew ?_) | (with_reducible refine Only.alloc ?_ _) | (with_reducible refine Only.setCell ?_ ?_ _) | (with_reducible refine Only.then0 ?_ (by with_reducible assumption)) | (with_reducible refine Only.thenN ?_ (by with_reducible assumption) ?_) | (with_reducible refine Only.trans ?_ (by with_reducible assumption)) | (refine .inl ?_; first | rfl | (simp; done) | (simp [Ar.blk]; done)) | (refine .inr ?_; first | omega | (simp; done) | (simp; omega) | exact Only.size (by with_reducible assumption) | (refine Nat.le_trans (Only.size (by with_reducible assumption)) ?_; simp; done)))⟩
  have t6 : decide (x14 < 1) = false := by simpa using h6
  by_cases h7 : 1000000000000000 < x14
  · have t7 : decide (1000000000000000 < x14) = true := by simpa using h7
    clear h
    go_enter Try.func25, Try.ntmps25
    go_wp2
    go_returns
    exact ⟨rfl, by repeat' (first | (with_reducible exact Only.refl _ _) | (with_reducible assumption) | (refine Only.of_none ?_; with_reducible assumption) | (with_reducible refine Only.drewN ?_ _) | (with_reducible refine Only.drew ?_) | (with_reducible refine Only.alloc ?_ _) | (with_reducible refine Only.setCell ?_ ?_ _) | (with_reducible refine Only.then0 ?_ (by with_reducible assumption)) | (with_reducible refine Only.thenN ?_ (by with_reducible assumption) ?_) | (with_reducible refine Only.trans ?_ (by with_reducible assumption)) | (refine .inl ?_; first | rfl | (simp; done) | (simp [Ar.blk]; done)) | (refine .inr ?_; first | omega | (simp; done) | (simp; omega) | exact Only.size (by with_reducible assumption) | (refine Nat.le_trans (Only.size (by with_reducible assumption)) ?_; simp; done)))⟩
  have t7 : decide (1000000000000000 < x14) = false := by simpa using h7
  exfalso
  simp [CfgOk, inB] at h
  omega

/-- What lies there behind New. -/
def RfNew (w : World) (x0 x11 x13 x14 : Int) (k : Nat) (e : Ending) (w' : World) : Prop :=
  ∃ b gp gt, e = .returned (.tuple #[.pointer (some ⟨b, 0, none⟩), .int .i64 0]) ∧ RfAt w'.heap.size w' b gp gt (Mt.init x0 x11 x13 x14) k (fun _ => .slice none 0 0) (fun _ => []) ∧ Only (fun _ => False) w w' ∧ w.heap.size ≤ b ∧ w.heap.size ≤ gp ∧ w.heap.size ≤ gt

theorem RfAt.rebase {base base' : Nat} {w : World} {b gp gt : Nat} {m : Mt} {k : Nat} (h : RfAt base w b gp gt m k (fun _ => .slice none 0 0) (fun _ => [])) (h1 : base ≤ base') (h2 : base' ≤ w.heap.size) : RfAt base' w b gp gt m k (fun _ => .slice none 0 0) (fun _ => []) :=
  ⟨h.c0, h.c11, h.c13, h.c14, h.c15, h.c16, h.c17, h.ek, h.pl, h.hd, fun _ _ => World.ownsRow_nil _ _ _ _, h.dis, ⟨by have := h.lows; omega, by have := h.lows; omega, by have := h.lows; omega⟩, h.ne, h2⟩

theorem Try.infoInt2 : (Try.prog.info? 3).map (fun i => (i.zero, i.size, i.bytes)) = some (some (.int .i64 0), 1, 8) := by kernel_rfl
theorem Try.infoTakes : (Try.prog.info? 143).map (fun i => (i.zero, i.size, i.bytes)) = some (some (.slice none 0 0), 1, 24) := by kernel_rfl

theorem cells_made {w : World} {g k : Nat} {z : Value} {t : TypeId} (h : w.heap[g]? = some (.cells (madeCells #[z] k) t (0, 0))) : ∀ i, i < k → Cell w g i z := fun i hi => by
  rw [show madeCells #[z] k = (madeCells #[z] k).toList.toArray by simp, toList_madeCells_one] at h
  exact cell_of_blk h (by simp [hi])

/-- What lies there behind the makes. -/
structure MadeM (w : World) (b gp gt k : Nat) (x0 x1 x2 x3 x4 x5 x6 x7 x8 x9 x10 x11 x12 x13 x14 : Int) : Prop where
  hb : w.heap[b]? = some (.cells #[.int .i64 x0, .int .i64 x1, .int .i64 x2, .int .i64 x3, .int .i64 x4, .int .i64 x5, .int .i64 x6, .int .i64 x7, .int .i64 x8, .int .i64 x9, .int .i64 x10, .int .i64 x11, .int .i64 x12, .int .i64 x13, .int .i64 x14, .int .i64 0, .slice (some ⟨gp, 0, none⟩) k k, .slice (some ⟨gt, 0, none⟩) k k] 139 (0, 0))
  hp : w.heap[gp]? = some (.cells (madeCells #[.int .i64 0] k) 3 (0, 0))
  ht : w.heap[gt]? = some (.cells (madeCells #[.slice none 0 0] k) 143 (0, 0))
  ne : b ≠ gp ∧ b ≠ gt ∧ gp ≠ gt

theorem MadeM.at_ {w : World} {b gp gt k : Nat} {x0 x1 x2 x3 x4 x5 x6 x7 x8 x9 x10 x11 x12 x13 x14 : Int} (h : MadeM w b gp gt k x0 x1 x2 x3 x4 x5 x6 x7 x8 x9 x10 x11 x12 x13 x14) (hk : (k : Int) = x0 + 1) : RfAt w.heap.size w b gp gt (Mt.init x0 x11 x13 x14) k (fun _ => .slice none 0 0) (fun _ => []) := by
  have lt : ∀ {g : Nat} {o : Obj}, w.heap[g]? = some o → g < w.heap.size := fun h => (Array.getElem?_eq_some_iff.1 h).1
  refine ⟨cell_of_blk (cs := [.int .i64 x0, .int .i64 x1, .int .i64 x2, .int .i64 x3, .int .i64 x4, .int .i64 x5, .int .i64 x6, .int .i64 x7, .int .i64 x8, .int .i64 x9, .int .i64 x10, .int .i64 x11, .int .i64 x12, .int .i64 x13, .int .i64 x14, .int .i64 0, .slice (some ⟨gp, 0, none⟩) k k, .slice (some ⟨gt, 0, none⟩) k k]) h.hb rfl, cell_of_blk (cs := [.int .i64 x0, .int .i64 x1, .int .i64 x2, .int .i64 x3, .int .i64 x4, .int .i64 x5, .int .i64 x6, .int .i64 x7, .int .i64 x8, .int .i64 x9, .int .i64 x10, .int .i64 x11, .int .i64 x12, .int .i64 x13, .int .i64 x14, .int .i64 0, .slice (some ⟨gp, 0, none⟩) k k, .slice (some ⟨gt, 0, none⟩) k k]) h.hb rfl, cell_of_blk (cs := [.int .i64 x0, .int .i64 x1, .int .i64 x2, .int .i64 x3, .int .i64 x4, .int .i64 x5, .int .i64 x6, .int .i64 x7, .int .i64 x8, .int .i64 x9, .int .i64 x10, .int .i64 x11, .int .i64 x12, .int .i64 x13, .int .i64 x14, .int .i64 0, .slice (some ⟨gp, 0, none⟩) k k, .slice (some ⟨gt, 0, none⟩) k k]) h.hb rfl, cell_of_blk (cs := [.int .i64 x0, .int .i64 x1, .int .i64 x2, .int .i64 x3, .int .i64 x4, .int .i64 x5, .int .i64 x6, .int .i64 x7, .int .i64 x8, .int .i64 x9, .int .i64 x10, .int .i64 x11, .int .i64 x12, .int .i64 x13, .int .i64 x14, .int .i64 0, .slice (some ⟨gp, 0, none⟩) k k, .slice (some ⟨gt, 0, none⟩) k k]) h.hb rfl, cell_of_blk (cs := [.int .i64 x0, .int .i64 x1, .int .i64 x2, .int .i64 x3, .int .i64 x4, .int .i64 x5, .int .i64 x6, .int .i64 x7, .int .i64 x8, .int .i64 x9, .int .i64 x10, .int .i64 x11, .int .i64 x12, .int .i64 x13, .int .i64 x14, .int .i64 0, .slice (some ⟨gp, 0, none⟩) k k, .slice (some ⟨gt, 0, none⟩) k k]) h.hb rfl, cell_of_blk (cs := [.int .i64 x0, .int .i64 x1, .int .i64 x2, .int .i64 x3, .int .i64 x4, .int .i64 x5, .int .i64 x6, .int .i64 x7, .int .i64 x8, .int .i64 x9, .int .i64 x10, .int .i64 x11, .int .i64 x12, .int .i64 x13, .int .i64 x14, .int .i64 0, .slice (some ⟨gp, 0, none⟩) k k, .slice (some ⟨gt, 0, none⟩) k k]) h.hb rfl, cell_of_blk (cs := [.int .i64 x0, .int .i64 x1, .int .i64 x2, .int .i64 x3, .int .i64 x4, .int .i64 x5, .int .i64 x6, .int .i64 x7, .int .i64 x8, .int .i64 x9, .int .i64 x10, .int .i64 x11, .int .i64 x12, .int .i64 x13, .int .i64 x14, .int .i64 0, .slice (some ⟨gp, 0, none⟩) k k, .slice (some ⟨gt, 0, none⟩) k k]) h.hb rfl,
    hk, cells_made h.hp, cells_made h.ht, fun _ _ => World.ownsRow_nil _ _ _ _, fun _ _ _ _ _ => .inl rfl, ⟨lt h.hb, lt h.hp, lt h.ht⟩, h.ne, Nat.le_refl _⟩

set_option maxHeartbeats 4000000 in
set_option maxRecDepth 100000 in
theorem r_new (x0 x1 x2 x3 x4 x5 x6 x7 x8 x9 x10 x11 x12 x13 x14 : Int) (k : Nat) (hk : (k : Int) = x0 + 1) (w : World) (h : CfgOk x0 x11 x13 x14 = true) :
    Calls Try.prog 25 #[.agg #[.int .i64 x0, .int .i64 x1, .int .i64 x2, .int .i64 x3, .int .i64 x4, .int .i64 x5, .int .i64 x6, .int .i64 x7, .int .i64 x8, .int .i64 x9, .int .i64 x10, .int .i64 x11, .int .i64 x12, .int .i64 x13, .int .i64 x14]] w (RfNew w x0 x11 x13 x14 k) := by
  simp only [CfgOk, Bool.and_eq_true] at h
  obtain ⟨⟨⟨b0, b1⟩, b2⟩, b3⟩ := h
  have b0 := inB_iff.1 b0; have b1 := inB_iff.1 b1; have b2 := inB_iff.1 b2; have b3 := inB_iff.1 b3
  obtain ⟨i1, hi1, hz1, hs1, hb1⟩ := info_parts Try.infoInt2
  obtain ⟨i2, hi2, hz2, hs2, hb2⟩ := info_parts Try.infoTakes
  have m1 := fun W => run_makeN (P := Try.prog) 58 3 i1 _ Try.underlying58 hi1 hz1 hs1 k (by rw [hb1]; omega) (by omega) W
  have m2 := fun W => run_makeN (P := Try.prog) 137 143 i2 _ Try.underlying137 hi2 hz2 hs2 k (by rw [hb2]; omega) (by omega) W
  change ∀ W : World, _ = Result.ok _ (W.alloc (.cells (madeCells #[.int .i64 0] (k * 1)) _)) at m1
  change ∀ W : World, _ = Result.ok _ (W.alloc (.cells (madeCells #[.slice none 0 0] (k * 1)) _)) at m2
  clear hi1 hz1 hs1 hb1 hi2 hz2 hs2 hb2
  have t0 : decide (x0 < 1) = false := by simp; omega
  have t1 : decide (8 < x0) = false := by simp; omega
  have t2 : decide (x11 < 0) = false := by simp; omega
  have t3 : decide (8 < x11) = false := by simp; omega
  have t4 : decide (x13 < 0) = false := by simp; omega
  have t5 : decide (1000000 < x13) = false := by simp; omega
  have t6 : decide (x14 < 1) = false := by simp; omega
  have t7 : decide (1000000000000000 < x14) = false := by simp; omega
  have wk : IntKind.i64.wrap (x0 + 1) = (k : Int) := by rw [IntKind.wrap_i64]; omega
  have HK := Lib.hid hk
  clear hk b0 b1 b2 b3
  go_enter Try.func25, Try.ntmps25
  go_wp2_with fail
  go_region
  all_goals
    go_wp2_with fail
    go_returns
    first
      | (refine ⟨w.heap.size + 1 + 1 + 1, w.heap.size + 1, w.heap.size + 1 + 1, rfl, (MadeM.at_ (x0 := x0) (x1 := x1) (x2 := x2) (x3 := x3) (x4 := x4) (x5 := x5) (x6 := x6) (x7 := x7) (x8 := x8) (x9 := x9) (x10 := x10) (x11 := x11) (x12 := x12) (x13 := x13) (x14 := x14) ⟨?_, ?_, ?_, ?_⟩ HK.out), ?_, ?_, ?_, ?_⟩; (repeat (first | exact hp_new (by simp; done) | (with_reducible refine hp_drew ?_) | (with_reducible refine hp_drewN ?_ _) | (with_reducible refine hp_old ?_ _))); (repeat (first | exact hp_new (by simp; done) | (with_reducible refine hp_drew ?_) | (with_reducible refine hp_drewN ?_ _) | (with_reducible refine hp_old ?_ _))); (repeat (first | exact hp_new (by simp; done) | (with_reducible refine hp_drew ?_) | (with_reducible refine hp_drewN ?_ _) | (with_reducible refine hp_old ?_ _))); omega; (repeat' (first | (with_reducible exact Only.refl _ _) | (with_reducible assumption) | (refine Only.of_none ?_; with_reducible assumption) | (with_reducible refine Only.drewN ?_ _) | (with_reducible refine Only.drew ?_) | (with_reducible refine Only.alloc ?_ _) | (with_reducible refine Only.setCell ?_ ?_ _) | (with_reducible refine Only.then0 ?_ (by with_reducible assumption)) | (with_reducible refine Only.thenN ?_ (by with_reducible assumption) ?_) | (with_reducible refine Only.trans ?_ (by with_reducible assumption)) | (refine .inl ?_; first | rfl | (simp; done) | (simp [Ar.blk]; done)) | (refine .inr ?_; first | omega | (simp; done) | (simp; omega) | exact Only.size (by with_reducible assumption) | (refine Nat.le_trans (Only.size (by with_reducible assumption)) ?_; simp; done)))); all_goals (first | omega | (simp; done) | (simp; omega)); done)
      | (refine ⟨w.heap.size + 1 + 1 + 1, w.heap.size + 1 + 1, w.heap.size + 1, rfl, (MadeM.at_ (x0 := x0) (x1 := x1) (x2 := x2) (x3 := x3) (x4 := x4) (x5 := x5) (x6 := x6) (x7 := x7) (x8 := x8) (x9 := x9) (x10 := x10) (x11 := x11) (x12 := x12) (x13 := x13) (x14 := x14) ⟨?_, ?_, ?_, ?_⟩ HK.out), ?_, ?_, ?_, ?_⟩; (repeat (first | exact hp_new (by simp; done) | (with_reducible refine hp_drew ?_) | (with_reducible refine hp_drewN ?_ _) | (with_reducible refine hp_old ?_ _))); (repeat (first | exact hp_new (by simp; done) | (with_reducible refine hp_drew ?_) | (with_reducible refine hp_drewN ?_ _) | (with_reducible refine hp_old ?_ _))); (repeat (first | exact hp_new (by simp; done) | (with_reducible refine hp_drew ?_) | (with_reducible refine hp_drewN ?_ _) | (with_reducible refine hp_old ?_ _))); omega; (repeat' (first | (with_reducible exact Only.refl _ _) | (with_reducible assumption) | (refine Only.of_none ?_; with_reducible assumption) | (with_reducible refine Only.drewN ?_ _) | (with_reducible refine Only.drew ?_) | (with_reducible refine Only.alloc ?_ _) | (with_reducible refine Only.setCell ?_ ?_ _) | (with_reducible refine Only.then0 ?_ (by with_reducible assumption)) | (with_reducible refine Only.thenN ?_ (by with_reducible assumption) ?_) | (with_reducible refine Only.trans ?_ (by with_reducible assumption)) | (refine .inl ?_; first | rfl | (simp; done) | (simp [Ar.blk]; done)) | (refine .inr ?_; first | omega | (simp; done) | (simp; omega) | exact Only.size (by with_reducible assumption) | (refine Nat.le_trans (Only.size (by with_reducible assumption)) ?_; simp; done)))); all_goals (first | omega | (simp; done) | (simp; omega)); done)
end Go.Proofs.Ytiiflgihjnlmcaa
