/- QuotaNever: the walk. No condition. -/
import Derived.Test.YtiiflgihjnlmcaaQuota5
import Derived.Deep.CutBlock
import Derived.Deep.CutRange
import Derived.Deep.DeepCutAuto
namespace Go.Proofs.Ytiiflgihjnlmcaa
set_option linter.unusedVariables false
set_option linter.unusedSimpArgs false
open Go.RowKit

theorem MtStep.of {b : Nat} {w w' : World} {e : Ending} {r : Int × Mt} (h : MtStep b w r e w') : ∃ F m', r = (F, m') ∧ e = .returned (.int .i64 F) ∧ MtAt w' b m' ∧ Only (· = b) w w' := ⟨r.1, r.2, rfl, h⟩

set_option maxHeartbeats 4000000 in
set_option maxRecDepth 100000 in
theorem quotaNever_yes (w : World) (x0 x1 x2 x3 x4 x5 x6 x7 x8 x9 x10 x11 x12 x13 x14 : Int) (hcfg : CfgOk x0 x11 x13 x14 = true) (a : Option Addr) (len cap : Nat) (rows : List (List Value)) (hs : SliceIn w a len cap [.i .i64, .i .i64, .i .i64, .i .i64] rows) (hlen : len * 32 ≤ 140737488351232) :
    Calls Try.prog 7 #[.agg #[.int .i64 x0, .int .i64 x1, .int .i64 x2, .int .i64 x3, .int .i64 x4, .int .i64 x5, .int .i64 x6, .int .i64 x7, .int .i64 x8, .int .i64 x9, .int .i64 x10, .int .i64 x11, .int .i64 x12, .int .i64 x13, .int .i64 x14], .slice a len cap] w fun e w' => e = .returned (.bool true) ∧ Only (fun _ => False) w w' := by
  have s0 := fun w => Lib.hid (q_new x0 x1 x2 x3 x4 x5 x6 x7 x8 x9 x10 x11 x12 x13 x14 w hcfg)
  have ok0 : MtOk (Mt.init x0 x11 x13 x14) := by
    unfold CfgOk at hcfg
    simp only [Bool.and_eq_true] at hcfg
    exact MtOk.init hcfg.1.1.1 hcfg.1.1.2 hcfg.1.2 hcfg.2
  have hst : (Mt.init x0 x11 x13 x14).st = x11 ∧ (Mt.init x0 x11 x13 x14).ac = x13 := ⟨rfl, rfl⟩
  have HC := Lib.hid hcfg
  clear hcfg
  generalize Mt.init x0 x11 x13 x14 = m0 at *
  go_enter Try.func7, Try.ntmps7
  go_wp2_with fail
  refine (q_works _).mono ?_
  rintro e w1 ⟨rfl, o1⟩
  have hc0 : w1.cell? ⟨w.heap.size, 0, none⟩ = some (.int .i64 x0) := o1.cell (by simp [go_sem]) id
  have hc1 : w1.cell? ⟨w.heap.size, 1, none⟩ = some (.int .i64 x1) := o1.cell (by simp [go_sem]) id
  have hc2 : w1.cell? ⟨w.heap.size, 2, none⟩ = some (.int .i64 x2) := o1.cell (by simp [go_sem]) id
  have hc3 : w1.cell? ⟨w.heap.size, 3, none⟩ = some (.int .i64 x3) := o1.cell (by simp [go_sem]) id
  have hc4 : w1.cell? ⟨w.heap.size, 4, none⟩ = some (.int .i64 x4) := o1.cell (by simp [go_sem]) id
  have hc5 : w1.cell? ⟨w.heap.size, 5, none⟩ = some (.int .i64 x5) := o1.cell (by simp [go_sem]) id
  have hc6 : w1.cell? ⟨w.heap.size, 6, none⟩ = some (.int .i64 x6) := o1.cell (by simp [go_sem]) id
  have hc7 : w1.cell? ⟨w.heap.size, 7, none⟩ = some (.int .i64 x7) := o1.cell (by simp [go_sem]) id
  have hc8 : w1.cell? ⟨w.heap.size, 8, none⟩ = some (.int .i64 x8) := o1.cell (by simp [go_sem]) id
  have hc9 : w1.cell? ⟨w.heap.size, 9, none⟩ = some (.int .i64 x9) := o1.cell (by simp [go_sem]) id
  have hc10 : w1.cell? ⟨w.heap.size, 10, none⟩ = some (.int .i64 x10) := o1.cell (by simp [go_sem]) id
  have hc11 : w1.cell? ⟨w.heap.size, 11, none⟩ = some (.int .i64 x11) := o1.cell (by simp [go_sem]) id
  have hc12 : w1.cell? ⟨w.heap.size, 12, none⟩ = some (.int .i64 x12) := o1.cell (by simp [go_sem]) id
  have hc13 : w1.cell? ⟨w.heap.size, 13, none⟩ = some (.int .i64 x13) := o1.cell (by simp [go_sem]) id
  have hc14 : w1.cell? ⟨w.heap.size, 14, none⟩ = some (.int .i64 x14) := o1.cell (by simp [go_sem]) id
  have hz1 : w.heap.size < w1.heap.size := cell_lt hc0
  go_wp2_with fail
  refine (s0 _).out.mono ?_
  rintro e w2 ⟨g, rfl, hg, hM, o2⟩
  have hd11 : w2.cell? ⟨w.heap.size, 11, none⟩ = some (.int .i64 x11) := o2.cell hc11 id
  have hd13 : w2.cell? ⟨w.heap.size, 13, none⟩ = some (.int .i64 x13) := o2.cell hc13 id
  have hgw : w.heap.size < g := by omega
  have p2 : Only (fun _ => False) w w2 := (((Only.refl _ w).alloc _).trans o1).trans o2
  clear hc0 hc1 hc2 hc3 hc4 hc5 hc6 hc7 hc8 hc9 hc10 hc11 hc12 hc13 hc14 o1 o2 hg hz1
  go_wp2
  go_loopw [8] (fun i wr => ∃ (k : Nat) (m : Mt), k ≤ len ∧ i = .int .i64 k ∧ MtOk m ∧ m.st = x11 ∧ m.ac = x13 ∧ MtAt wr g m ∧ Only (fun _ => False) w wr ∧ wr.cell? ⟨w.heap.size, 11, none⟩ = some (.int .i64 x11) ∧ wr.cell? ⟨w.heap.size, 13, none⟩ = some (.int .i64 x13))
    (fun i _ => len - (intOf i).toNat)
  case atStart => exact ⟨0, m0, by omega, rfl, ok0, hst.1, hst.2, hM, p2, hd11, hd13⟩
  case round =>
    obtain ⟨k, m, hk, rfl, ok, hst', hac', hM, ho, hd11, hd13⟩ := hrel
    by_cases hlt : k < len
    · obtain ⟨B, off, ha, hB, hcell⟩ := hs.at_ (by omega) (by decide)
      subst ha
      obtain ⟨r, hr⟩ : ∃ r, rows[k]? = some r := ⟨_, List.getElem?_eq_getElem (by rw [hs.1]; exact hlt)⟩
      obtain ⟨kind, _, rfl, hw0, hf⟩ := fits_i (hs.2.1 r (List.mem_of_getElem? hr))
      obtain ⟨c, _, rfl, hw1, hf⟩ := fits_i hf
      obtain ⟨n, _, rfl, hw2, hf⟩ := fits_i hf
      obtain ⟨t, _, rfl, hw3, hf⟩ := fits_i hf
      obtain rfl := fits_nil hf
      have r0 := ho.cell (hcell k _ hr 0 _ rfl) id
      have r1 := ho.cell (hcell k _ hr 1 _ rfl) id
      have r2 := ho.cell (hcell k _ hr 2 _ rfl) id
      have r3 := ho.cell (hcell k _ hr 3 _ rfl) id
      simp only [List.length_cons, List.length_nil, Nat.zero_add, Nat.reduceAdd, Nat.add_zero] at r0 r1 r2 r3
      have hbr : B < wr.heap.size := Nat.lt_of_lt_of_le hB ho.size
      clear hcell hf hr
      have b2 := bounds_i64 hw2
      have hz : w.heap.size < wr.heap.size := cell_lt hd11
      have HU := Lib.hid (fun w' (h : MtAt w' g m) d => q_used g m d w' ok h)
      have HW := Lib.hid (fun w' (h : MtAt w' g m) => q_window g m w' ok h)
      go_wp2_with fail
      refine (HU.out _ (hM.only (S := fun _ => False) (by repeat' (first | (with_reducible exact Only.refl _ _) | (with_reducible assumption) | (refine Only.of_none ?_; with_reducible assumption) | (with_reducible refine Only.drewN ?_ _) | (with_reducible refine Only.drew ?_) | (with_reducible refine Only.alloc ?_ _) | (with_reducible refine Only.setCell ?_ ?_ _) | (with_reducible refine Only.then0 ?_ (by with_reducible assumption)) | (with_reducible refine Only.thenN ?_ (by with_reducible assumption) ?_) | (refine .inl ?_; first | rfl | (simp; done)) | (refine .inr ?_; first | omega | (simp; done) | (simp; omega) | exact Only.size (by with_reducible assumption) | (refine Nat.le_trans (Only.size (by with_reducible assumption)) ?_; simp; done)))) id) c).mono ?_
      rintro e w3 ⟨rfl, o3⟩
      go_wp2_with fail
      refine (HU.out _ (hM.only (S := fun _ => False) (by repeat' (first | (with_reducible exact Only.refl _ _) | (with_reducible assumption) | (refine Only.of_none ?_; with_reducible assumption) | (with_reducible refine Only.drewN ?_ _) | (with_reducible refine Only.drew ?_) | (with_reducible refine Only.alloc ?_ _) | (with_reducible refine Only.setCell ?_ ?_ _) | (with_reducible refine Only.then0 ?_ (by with_reducible assumption)) | (with_reducible refine Only.thenN ?_ (by with_reducible assumption) ?_) | (refine .inl ?_; first | rfl | (simp; done)) | (refine .inr ?_; first | omega | (simp; done) | (simp; omega) | exact Only.size (by with_reducible assumption) | (refine Nat.le_trans (Only.size (by with_reducible assumption)) ?_; simp; done)))) id) 1).mono ?_
      rintro e w4 ⟨rfl, o4⟩
      have q4 : ∀ i v, i < 4 → w3.cell? ⟨wr.heap.size, i, none⟩ = some v → w4.cell? ⟨wr.heap.size, i, none⟩ = some v := fun i v _ h => o4.cell h id
      have q0 : w4.cell? ⟨wr.heap.size, 0, none⟩ = some (.int .i64 kind) := o4.cell (o3.cell (by simp [go_sem]) id) id
      have q1 : w4.cell? ⟨wr.heap.size, 1, none⟩ = some (.int .i64 c) := o4.cell (o3.cell (by simp [go_sem]) id) id
      have q2 : w4.cell? ⟨wr.heap.size, 2, none⟩ = some (.int .i64 n) := o4.cell (o3.cell (by simp [go_sem]) id) id
      have q3 : w4.cell? ⟨wr.heap.size, 3, none⟩ = some (.int .i64 t) := o4.cell (o3.cell (by simp [go_sem]) id) id
      have e11 : w4.cell? ⟨w.heap.size, 11, none⟩ = some (.int .i64 x11) := o4.cell (o3.cell (by simp [go_sem, hd11, hz]) id) id
      have e13 : w4.cell? ⟨w.heap.size, 13, none⟩ = some (.int .i64 x13) := o4.cell (o3.cell (by simp [go_sem, hd13, hz]) id) id
      have hM4 : MtAt w4 g m := hM.only (S := fun _ => False) (by repeat' (first | (with_reducible exact Only.refl _ _) | (with_reducible assumption) | (refine Only.of_none ?_; with_reducible assumption) | (with_reducible refine Only.drewN ?_ _) | (with_reducible refine Only.drew ?_) | (with_reducible refine Only.alloc ?_ _) | (with_reducible refine Only.setCell ?_ ?_ _) | (with_reducible refine Only.then0 ?_ (by with_reducible assumption)) | (with_reducible refine Only.thenN ?_ (by with_reducible assumption) ?_) | (refine .inl ?_; first | rfl | (simp; done)) | (refine .inr ?_; first | omega | (simp; done) | (simp; omega) | exact Only.size (by with_reducible assumption) | (refine Nat.le_trans (Only.size (by with_reducible assumption)) ?_; simp; done)))) id
      have pw : Only (fun _ => False) w w4 := by repeat' (first | (with_reducible exact Only.refl _ _) | (with_reducible assumption) | (refine Only.of_none ?_; with_reducible assumption) | (with_reducible refine Only.drewN ?_ _) | (with_reducible refine Only.drew ?_) | (with_reducible refine Only.alloc ?_ _) | (with_reducible refine Only.setCell ?_ ?_ _) | (with_reducible refine Only.then0 ?_ (by with_reducible assumption)) | (with_reducible refine Only.thenN ?_ (by with_reducible assumption) ?_) | (refine .inl ?_; first | rfl | (simp; done)) | (refine .inr ?_; first | omega | (simp; done) | (simp; omega) | exact Only.size (by with_reducible assumption) | (refine Nat.le_trans (Only.size (by with_reducible assumption)) ?_; simp; done)))
      have hgx : g < wr.heap.size := hM.c0.lt
      have hgn : ¬ wr.heap.size = g := by omega
      have hgn' : ¬ w.heap.size = g := by omega
      clear q4 o3 o4 r0 r1 r2 r3 hd11 hd13 ho hM hw0 hw1 hw2 hw3 hbr hB HU
      go_wp2_with fail
      refine (HW.out _ hM4).mono ?_
      rintro e w5 ⟨rfl, n5, rfl⟩
      clear HW
      go_upto_block 2 with fail
      go_cut [15] from 41 to 201 (fun s15 wc => ∃ (F : Int) (m' : Mt), s15 = .int .i64 F ∧ m.step kind c n t = (F, m') ∧ MtAt wc g m' ∧ Only (· = g) w4 wc)
      case first =>
        by_cases k1 : kind = 1
        · subst k1
          as_aux_lemma =>
            go_wp2_with fail
            refine (q_acts g m c n _ ok (hM4.drewN n5) b2.1 b2.2).mono ?_
            rintro e w6 ⟨rfl, hM6, o6⟩
            go_wp2_with fail
            go_meet
            exact ⟨_, _, rfl, rfl, hM6, by repeat' (first | (with_reducible exact Only.refl _ _) | (with_reducible assumption) | (refine Only.of_none ?_; with_reducible assumption) | (with_reducible refine Only.drewN ?_ _) | (with_reducible refine Only.drew ?_) | (with_reducible refine Only.alloc ?_ _) | (with_reducible refine Only.setCell ?_ ?_ _) | (with_reducible refine Only.then0 ?_ (by with_reducible assumption)) | (with_reducible refine Only.thenN ?_ (by with_reducible assumption) ?_) | (refine .inl ?_; first | rfl | (simp; done)) | (refine .inr ?_; first | omega | (simp; done) | (simp; omega) | exact Only.size (by with_reducible assumption) | (refine Nat.le_trans (Only.size (by with_reducible assumption)) ?_; simp; done)))⟩
        by_cases k2 : kind = 2
        · subst k2
          as_aux_lemma =>
            go_wp2_with fail
            refine (q_plan g m c _ ok (hM4.drewN n5)).mono ?_
            rintro e w6 ⟨rfl, hM6, o6⟩
            go_wp2_with fail
            go_meet
            exact ⟨_, _, rfl, rfl, hM6, by repeat' (first | (with_reducible exact Only.refl _ _) | (with_reducible assumption) | (refine Only.of_none ?_; with_reducible assumption) | (with_reducible refine Only.drewN ?_ _) | (with_reducible refine Only.drew ?_) | (with_reducible refine Only.alloc ?_ _) | (with_reducible refine Only.setCell ?_ ?_ _) | (with_reducible refine Only.then0 ?_ (by with_reducible assumption)) | (with_reducible refine Only.thenN ?_ (by with_reducible assumption) ?_) | (refine .inl ?_; first | rfl | (simp; done)) | (refine .inr ?_; first | omega | (simp; done) | (simp; omega) | exact Only.size (by with_reducible assumption) | (refine Nat.le_trans (Only.size (by with_reducible assumption)) ?_; simp; done)))⟩
        by_cases k3 : kind = 3
        · subst k3
          as_aux_lemma =>
            go_wp2_with fail
            refine (q_drop g m c _ ok (hM4.drewN n5)).mono ?_
            rintro e w6 ⟨rfl, hM6, o6⟩
            go_wp2_with fail
            go_meet
            exact ⟨_, _, rfl, rfl, hM6, by repeat' (first | (with_reducible exact Only.refl _ _) | (with_reducible assumption) | (refine Only.of_none ?_; with_reducible assumption) | (with_reducible refine Only.drewN ?_ _) | (with_reducible refine Only.drew ?_) | (with_reducible refine Only.alloc ?_ _) | (with_reducible refine Only.setCell ?_ ?_ _) | (with_reducible refine Only.then0 ?_ (by with_reducible assumption)) | (with_reducible refine Only.thenN ?_ (by with_reducible assumption) ?_) | (refine .inl ?_; first | rfl | (simp; done)) | (refine .inr ?_; first | omega | (simp; done) | (simp; omega) | exact Only.size (by with_reducible assumption) | (refine Nat.le_trans (Only.size (by with_reducible assumption)) ?_; simp; done)))⟩
        by_cases k4 : kind = 4
        · subst k4
          as_aux_lemma =>
            go_wp2_with fail
            refine (q_tick g m t _ (hM4.drewN n5)).mono ?_
            rintro e w6 ⟨rfl, hM6, o6⟩
            go_wp2_with fail
            go_meet
            exact ⟨_, _, rfl, rfl, hM6, by repeat' (first | (with_reducible exact Only.refl _ _) | (with_reducible assumption) | (refine Only.of_none ?_; with_reducible assumption) | (with_reducible refine Only.drewN ?_ _) | (with_reducible refine Only.drew ?_) | (with_reducible refine Only.alloc ?_ _) | (with_reducible refine Only.setCell ?_ ?_ _) | (with_reducible refine Only.then0 ?_ (by with_reducible assumption)) | (with_reducible refine Only.thenN ?_ (by with_reducible assumption) ?_) | (refine .inl ?_; first | rfl | (simp; done)) | (refine .inr ?_; first | omega | (simp; done) | (simp; omega) | exact Only.size (by with_reducible assumption) | (refine Nat.le_trans (Only.size (by with_reducible assumption)) ?_; simp; done)))⟩
        have j1 : (kind == 1) = false := by simpa using k1
        have j2 : (kind == 2) = false := by simpa using k2
        have j3 : (kind == 3) = false := by simpa using k3
        have j4 : (kind == 4) = false := by simpa using k4
        as_aux_lemma =>
          go_wp2_with fail
          go_meet
          exact ⟨0, m, rfl, by unfold Mt.step; rw [if_neg k1, if_neg k2, if_neg k3, if_neg k4], hM4.drewN n5, by repeat' (first | (with_reducible exact Only.refl _ _) | (with_reducible assumption) | (refine Only.of_none ?_; with_reducible assumption) | (with_reducible refine Only.drewN ?_ _) | (with_reducible refine Only.drew ?_) | (with_reducible refine Only.alloc ?_ _) | (with_reducible refine Only.setCell ?_ ?_ _) | (with_reducible refine Only.then0 ?_ (by with_reducible assumption)) | (with_reducible refine Only.thenN ?_ (by with_reducible assumption) ?_) | (refine .inl ?_; first | rfl | (simp; done)) | (refine .inr ?_; first | omega | (simp; done) | (simp; omega) | exact Only.size (by with_reducible assumption) | (refine Nat.le_trans (Only.size (by with_reducible assumption)) ?_; simp; done)))⟩
      case rest =>
        obtain ⟨F, m', rfl, hs1, hM6, o6⟩ := hcut
        have ok' : MtOk m' := by have := ok.step kind c n t; rwa [hs1] at this
        have hst2 : m'.st = x11 := by have := (m.step_keep kind c n t).1; rw [hs1] at this; exact this.trans hst'
        have hac2 : m'.ac = x13 := by have := (m.step_keep kind c n t).2.1; rw [hs1] at this; exact this.trans hac'
        have y0 := o6.cell q0 hgn
        have y1 := o6.cell q1 hgn
        have y2 := o6.cell q2 hgn
        have y3 := o6.cell q3 hgn
        have y11 := o6.cell e11 hgn'
        have y13 := o6.cell e13 hgn'
        have hu := ok'.used c
        rw [hst2, hac2] at hu
        obtain ⟨u1, u2, u3, u4'⟩ := hu
        have HU' := Lib.hid (fun w' (h : MtAt w' g m') d => q_used g m' d w' ok' h)
        have HW' := Lib.hid (fun w' (h : MtAt w' g m') => q_window g m' w' ok' h)
        have HS1 := Lib.hid hs1
        have hst3 := Lib.hid hst2
        have hac3 := Lib.hid hac2
        clear hs1 q0 q1 q2 q3 e11 e13 hM4 hst2 hac2 hst' hac'
        go_wp2_with fail
        refine (HU'.out _ (hM6.only (S := fun _ => False) (by repeat' (first | (with_reducible exact Only.refl _ _) | (with_reducible assumption) | (refine Only.of_none ?_; with_reducible assumption) | (with_reducible refine Only.drewN ?_ _) | (with_reducible refine Only.drew ?_) | (with_reducible refine Only.alloc ?_ _) | (with_reducible refine Only.setCell ?_ ?_ _) | (with_reducible refine Only.then0 ?_ (by with_reducible assumption)) | (with_reducible refine Only.thenN ?_ (by with_reducible assumption) ?_) | (refine .inl ?_; first | rfl | (simp; done)) | (refine .inr ?_; first | omega | (simp; done) | (simp; omega) | exact Only.size (by with_reducible assumption) | (refine Nat.le_trans (Only.size (by with_reducible assumption)) ?_; simp; done)))) id) c).mono ?_
        rintro e w7 ⟨rfl, o7⟩
        go_wp2_with fail
        refine (HU'.out _ (hM6.only (S := fun _ => False) (by repeat' (first | (with_reducible exact Only.refl _ _) | (with_reducible assumption) | (refine Only.of_none ?_; with_reducible assumption) | (with_reducible refine Only.drewN ?_ _) | (with_reducible refine Only.drew ?_) | (with_reducible refine Only.alloc ?_ _) | (with_reducible refine Only.setCell ?_ ?_ _) | (with_reducible refine Only.then0 ?_ (by with_reducible assumption)) | (with_reducible refine Only.thenN ?_ (by with_reducible assumption) ?_) | (refine .inl ?_; first | rfl | (simp; done)) | (refine .inr ?_; first | omega | (simp; done) | (simp; omega) | exact Only.size (by with_reducible assumption) | (refine Nat.le_trans (Only.size (by with_reducible assumption)) ?_; simp; done)))) id) 1).mono ?_
        rintro e w8 ⟨rfl, o8⟩
        go_wp2_with fail
        refine (HW'.out _ (hM6.only (S := fun _ => False) (by repeat' (first | (with_reducible exact Only.refl _ _) | (with_reducible assumption) | (refine Only.of_none ?_; with_reducible assumption) | (with_reducible refine Only.drewN ?_ _) | (with_reducible refine Only.drew ?_) | (with_reducible refine Only.alloc ?_ _) | (with_reducible refine Only.setCell ?_ ?_ _) | (with_reducible refine Only.then0 ?_ (by with_reducible assumption)) | (with_reducible refine Only.thenN ?_ (by with_reducible assumption) ?_) | (refine .inl ?_; first | rfl | (simp; done)) | (refine .inr ?_; first | omega | (simp; done) | (simp; omega) | exact Only.size (by with_reducible assumption) | (refine Nat.le_trans (Only.size (by with_reducible assumption)) ?_; simp; done)))) id)).mono ?_
        rintro e w9 ⟨rfl, n9, rfl⟩
        have g0 := (o7.trans o8).cell y0 id
        have g1 := (o7.trans o8).cell y1 id
        have g2 := (o7.trans o8).cell y2 id
        have g11 := (o7.trans o8).cell y11 id
        have g13 := (o7.trans o8).cell y13 id
        have HM9 := Lib.hid (hM6.only (S := fun _ => False) (by repeat' (first | (with_reducible exact Only.refl _ _) | (with_reducible assumption) | (refine Only.of_none ?_; with_reducible assumption) | (with_reducible refine Only.drewN ?_ _) | (with_reducible refine Only.drew ?_) | (with_reducible refine Only.alloc ?_ _) | (with_reducible refine Only.setCell ?_ ?_ _) | (with_reducible refine Only.then0 ?_ (by with_reducible assumption)) | (with_reducible refine Only.thenN ?_ (by with_reducible assumption) ?_) | (refine .inl ?_; first | rfl | (simp; done)) | (refine .inr ?_; first | omega | (simp; done) | (simp; omega) | exact Only.size (by with_reducible assumption) | (refine Nat.le_trans (Only.size (by with_reducible assumption)) ?_; simp; done))) : Only (fun _ => False) wc (w8.drewN n9)) id)
        have PW9 := Lib.hid (by repeat' (first | (with_reducible exact Only.refl _ _) | (with_reducible assumption) | (refine Only.of_none ?_; with_reducible assumption) | (with_reducible refine Only.drewN ?_ _) | (with_reducible refine Only.drew ?_) | (with_reducible refine Only.alloc ?_ _) | (with_reducible refine Only.setCell ?_ ?_ _) | (with_reducible refine Only.then0 ?_ (by with_reducible assumption)) | (with_reducible refine Only.thenN ?_ (by with_reducible assumption) ?_) | (refine .inl ?_; first | rfl | (simp; done)) | (refine .inr ?_; first | omega | (simp; done) | (simp; omega) | exact Only.size (by with_reducible assumption) | (refine Nat.le_trans (Only.size (by with_reducible assumption)) ?_; simp; done))) : Only (fun _ => False) w (w8.drewN n9))
        clear HU' HW' hM6 o6 o7 o8 y0 y1 y2 y3 y11 y13 pw
        have hs1 := HS1.out
        have hk1 : ((k : Int) + 1) = ((k + 1 : Nat) : Int) := by omega
        have HK := Lib.hid hk1
        clear HS1 hk1
        by_cases hF : F = 0
        · subst hF
          by_cases k4 : kind = 4
          · subst k4
            have htk := Mt.step_tick ok t c
            rw [show m.tick t = (0, m') from hs1] at htk
            obtain ⟨tk1, tk2, tk3⟩ := htk
            simp only at tk1 tk2 tk3
            clear hs1
            by_cases hwv : m'.w = m.w
            · have tk2' := tk2 hwv
              clear tk2 tk3
              as_aux_lemma =>
                go_wp2
                all_goals
                  go_roundw
                  case rel => exact ⟨k + 1, m', by omega, by go_num, ok', hst3.out, hac3.out, HM9.out, PW9.out, g11, g13⟩
                  case measure => simp [intOf]; omega
            · have tk3' := tk3 hwv
              clear tk2 tk3
              have tw1 : (m'.w == m.w) = false := by simpa using hwv
              have tw2 : (m'.w != m.w) = true := by simpa using hwv
              clear hwv
              as_aux_lemma =>
                go_wp2
                all_goals
                  go_roundw
                  case rel => exact ⟨k + 1, m', by omega, by go_num, ok', hst3.out, hac3.out, HM9.out, PW9.out, g11, g13⟩
                  case measure => simp [intOf]; omega
          · have j4 : (kind == 4) = false := by simpa using k4
            have j4' : (kind != 4) = true := by simpa using k4
            have hoth : ¬ 1 = c → m'.used 1 = m.used 1 := fun h => by have := Mt.step_other (m := m) (kind := kind) (c := c) (n := n) (t := t) (d := 1) h k4; rwa [hs1] at this
            clear k4
            by_cases k1 : kind = 1
            · subst k1
              have ha2 : (m'.used c).2 = (m.used c).2 + n := by have := Mt.step_acts (m := m) (c := c) (n := n); rw [show m.acts c n = (0, m') from hs1] at this; exact this rfl
              have hn2 : n = (m'.used c).2 - (m.used c).2 := by omega
              have hu3 := (ok'.used c).2.2.1
              have hu4 : (m'.used c).2 ≤ 1000000 := Int.le_trans (ok'.used c).2.2.2 ok'.ac6
              have hu5 := (ok.used c).2.2.1
              have hu6 : (m.used c).2 ≤ 1000000 := Int.le_trans (ok.used c).2.2.2 ok.ac6
              have he : (m.used c).2 + ((m'.used c).2 - (m.used c).2) = (m'.used c).2 := by omega
              clear ha2 hs1
              subst hn2
              by_cases hc1 : c = 1
              · subst hc1
                clear hoth
                as_aux_lemma =>
                  go_wp2
                  all_goals
                    go_roundw
                    case rel => exact ⟨k + 1, m', by omega, by go_num, ok', hst3.out, hac3.out, HM9.out, PW9.out, g11, g13⟩
                    case measure => simp [intOf]; omega
              · have h1 := hoth (fun e => hc1 e.symm)
                have hc2 : (c != 1) = true := by simpa using hc1
                clear hoth hc1
                as_aux_lemma =>
                  go_wp2
                  all_goals
                    go_roundw
                    case rel => exact ⟨k + 1, m', by omega, by go_num, ok', hst3.out, hac3.out, HM9.out, PW9.out, g11, g13⟩
                    case measure => simp [intOf]; omega
            · have j1 : (kind == 1) = false := by simpa using k1
              clear k1 hs1
              by_cases hc1 : c = 1
              · subst hc1
                clear hoth
                as_aux_lemma =>
                  go_wp2
                  all_goals
                    go_roundw
                    case rel => exact ⟨k + 1, m', by omega, by go_num, ok', hst3.out, hac3.out, HM9.out, PW9.out, g11, g13⟩
                    case measure => simp [intOf]; omega
              · have h1 := hoth (fun e => hc1 e.symm)
                have hc2 : (c != 1) = true := by simpa using hc1
                clear hoth hc1
                as_aux_lemma =>
                  go_wp2
                  all_goals
                    go_roundw
                    case rel => exact ⟨k + 1, m', by omega, by go_num, ok', hst3.out, hac3.out, HM9.out, PW9.out, g11, g13⟩
                    case measure => simp [intOf]; omega
        · have e : m' = m := by have := Mt.step_no (m := m) (kind := kind) (c := c) (n := n) (t := t); rw [hs1] at this; exact this hF
          subst e
          have jF : (F != 0) = true := by simpa using hF
          have jF' : (F == 0) = false := by simpa using hF
          clear hF hs1
          as_aux_lemma =>
            go_wp2
            all_goals
              go_roundw
              case rel => exact ⟨k + 1, m', by omega, by go_num, ok', hst3.out, hac3.out, HM9.out, PW9.out, g11, g13⟩
              case measure => simp [intOf]; omega
    · go_wp2
      go_returns
      exact ⟨rfl, by repeat' (first | (with_reducible exact Only.refl _ _) | (with_reducible assumption) | (refine Only.of_none ?_; with_reducible assumption) | (with_reducible refine Only.drewN ?_ _) | (with_reducible refine Only.drew ?_) | (with_reducible refine Only.alloc ?_ _) | (with_reducible refine Only.setCell ?_ ?_ _) | (with_reducible refine Only.then0 ?_ (by with_reducible assumption)) | (with_reducible refine Only.thenN ?_ (by with_reducible assumption) ?_) | (refine .inl ?_; first | rfl | (simp; done)) | (refine .inr ?_; first | omega | (simp; done) | (simp; omega) | exact Only.size (by with_reducible assumption) | (refine Nat.le_trans (Only.size (by with_reducible assumption)) ?_; simp; done)))⟩
end Go.Proofs.Ytiiflgihjnlmcaa
