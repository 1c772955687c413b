/- QuotaDoes: the walk. No condition. -/
import Derived.Test.YtiiflgihjnlmcaaMeter7
import Derived.Test.YtiiflgihjnlmcaaFlat2
namespace Go.Proofs.Ytiiflgihjnlmcaa
set_option linter.unusedVariables false
set_option linter.unusedSimpArgs false
open Go.RowKit

theorem MtStep.of' {b : Nat} {w w' : World} {e : Ending} {r : Int × Mt} (h : MtStep b w r e w') : e = .returned (.int .i64 r.1) ∧ MtAt w' b r.2 ∧ Only (· = b) w w' := h

set_option maxHeartbeats 4000000 in
set_option maxRecDepth 100000 in
theorem quotaDoes_no (w : World) (x0 x1 x2 x3 x4 x5 x6 x7 x8 x9 x10 x11 x12 x13 x14 : Int) (hcfg : CfgOk x0 x11 x13 x14 = false) (a : Option Addr) (len cap : Nat) :
    Calls Try.prog 6 #[.agg #[.int .i64 x0, .int .i64 x1, .int .i64 x2, .int .i64 x3, .int .i64 x4, .int .i64 x5, .int .i64 x6, .int .i64 x7, .int .i64 x8, .int .i64 x9, .int .i64 x10, .int .i64 x11, .int .i64 x12, .int .i64 x13, .int .i64 x14], .slice a len cap] w fun e w' => e = .returned (.bool true) ∧ Only (fun _ => False) w w' := by
  have s0 := fun w => Lib.hid (q_new_no x0 x1 x2 x3 x4 x5 x6 x7 x8 x9 x10 x11 x12 x13 x14 w hcfg)
  have s1 := fun w => Lib.hid (r_new_no x0 x1 x2 x3 x4 x5 x6 x7 x8 x9 x10 x11 x12 x13 x14 w hcfg)
  clear hcfg
  go_enter Try.func6, Try.ntmps6
  go_wp2_with fail
  refine (q_works _).mono ?_
  rintro e w1 ⟨rfl, o1⟩
  have hc0 : w1.cell? ⟨w.heap.size, 0, none⟩ = some (.int .i64 x0) := o1.cell (by simp [go_sem]) id
  have hc1 : w1.cell? ⟨w.heap.size, 1, none⟩ = some (.int .i64 x1) := o1.cell (by simp [go_sem]) id
  have hc2 : w1.cell? ⟨w.heap.size, 2, none⟩ = some (.int .i64 x2) := o1.cell (by simp [go_sem]) id
  have hc3 : w1.cell? ⟨w.heap.size, 3, none⟩ = some (.int .i64 x3) := o1.cell (by simp [go_sem]) id
  have hc4 : w1.cell? ⟨w.heap.size, 4, none⟩ = some (.int .i64 x4) := o1.cell (by simp [go_sem]) id
  have hc5 : w1.cell? ⟨w.heap.size, 5, none⟩ = some (.int .i64 x5) := o1.cell (by simp [go_sem]) id
  have hc6 : w1.cell? ⟨w.heap.size, 6, none⟩ = some (.int .i64 x6) := o1.cell (by simp [go_sem]) id
  have hc7 : w1.cell? ⟨w.heap.size, 7, none⟩ = some (.int .i64 x7) := o1.cell (by simp [go_sem]) id
  have hc8 : w1.cell? ⟨w.heap.size, 8, none⟩ = some (.int .i64 x8) := o1.cell (by simp [go_sem]) id
  have hc9 : w1.cell? ⟨w.heap.size, 9, none⟩ = some (.int .i64 x9) := o1.cell (by simp [go_sem]) id
  have hc10 : w1.cell? ⟨w.heap.size, 10, none⟩ = some (.int .i64 x10) := o1.cell (by simp [go_sem]) id
  have hc11 : w1.cell? ⟨w.heap.size, 11, none⟩ = some (.int .i64 x11) := o1.cell (by simp [go_sem]) id
  have hc12 : w1.cell? ⟨w.heap.size, 12, none⟩ = some (.int .i64 x12) := o1.cell (by simp [go_sem]) id
  have hc13 : w1.cell? ⟨w.heap.size, 13, none⟩ = some (.int .i64 x13) := o1.cell (by simp [go_sem]) id
  have hc14 : w1.cell? ⟨w.heap.size, 14, none⟩ = some (.int .i64 x14) := o1.cell (by simp [go_sem]) id
  go_wp2_with fail
  refine (s0 _).out.mono ?_
  rintro e w2 ⟨rfl, o2⟩
  have hd0 : w2.cell? ⟨w.heap.size, 0, none⟩ = some (.int .i64 x0) := o2.cell hc0 id
  have hd1 : w2.cell? ⟨w.heap.size, 1, none⟩ = some (.int .i64 x1) := o2.cell hc1 id
  have hd2 : w2.cell? ⟨w.heap.size, 2, none⟩ = some (.int .i64 x2) := o2.cell hc2 id
  have hd3 : w2.cell? ⟨w.heap.size, 3, none⟩ = some (.int .i64 x3) := o2.cell hc3 id
  have hd4 : w2.cell? ⟨w.heap.size, 4, none⟩ = some (.int .i64 x4) := o2.cell hc4 id
  have hd5 : w2.cell? ⟨w.heap.size, 5, none⟩ = some (.int .i64 x5) := o2.cell hc5 id
  have hd6 : w2.cell? ⟨w.heap.size, 6, none⟩ = some (.int .i64 x6) := o2.cell hc6 id
  have hd7 : w2.cell? ⟨w.heap.size, 7, none⟩ = some (.int .i64 x7) := o2.cell hc7 id
  have hd8 : w2.cell? ⟨w.heap.size, 8, none⟩ = some (.int .i64 x8) := o2.cell hc8 id
  have hd9 : w2.cell? ⟨w.heap.size, 9, none⟩ = some (.int .i64 x9) := o2.cell hc9 id
  have hd10 : w2.cell? ⟨w.heap.size, 10, none⟩ = some (.int .i64 x10) := o2.cell hc10 id
  have hd11 : w2.cell? ⟨w.heap.size, 11, none⟩ = some (.int .i64 x11) := o2.cell hc11 id
  have hd12 : w2.cell? ⟨w.heap.size, 12, none⟩ = some (.int .i64 x12) := o2.cell hc12 id
  have hd13 : w2.cell? ⟨w.heap.size, 13, none⟩ = some (.int .i64 x13) := o2.cell hc13 id
  have hd14 : w2.cell? ⟨w.heap.size, 14, none⟩ = some (.int .i64 x14) := o2.cell hc14 id
  clear hc0 hc1 hc2 hc3 hc4 hc5 hc6 hc7 hc8 hc9 hc10 hc11 hc12 hc13 hc14
  go_wp2_with fail
  refine (s1 _).out.mono ?_
  rintro e w3 ⟨rfl, o3⟩
  clear hd0 hd1 hd2 hd3 hd4 hd5 hd6 hd7 hd8 hd9 hd10 hd11 hd12 hd13 hd14
  go_wp2_with fail
  go_returns
  exact ⟨rfl, by repeat' (first | (with_reducible exact Only.refl _ _) | (with_reducible assumption) | (refine Only.of_none ?_; with_reducible assumption) | (with_reducible refine Only.drewN ?_ _) | (with_reducible refine Only.drew ?_) | (with_reducible refine Only.alloc ?_ _) | (with_reducible refine Only.setCell ?_ ?_ _) | (with_reducible refine Only.then0 ?_ (by with_reducible assumption)) | (with_reducible refine Only.thenN ?_ (by with_reducible assumption) ?_) | (with_reducible refine Only.trans ?_ (by with_reducible assumption)) | (refine .inl ?_; first | rfl | (simp; done) | (simp [Ar.blk]; done)) | (refine .inr ?_; first | omega | (simp; done) | (simp; omega) | exact Only.size (by with_reducible assumption) | (refine Nat.le_trans (Only.size (by with_reducible assumption)) ?_; simp; done)))⟩

/-- The state of the loop. -/
structure QD (w W : World) (len bm bo base b gp gt k : Nat) (mo : Mt) (s : Value) (j : Nat) (m : Mt) (hv : Nat → Value) (T : Nat → List (Int × Int)) : Prop where
  le : j ≤ len
  s : s = .int .i64 j
  ok : MtOk m
  rok : RfOk m k T j
  hm : MtAt W bm m
  hr : RfAt base W b gp gt m k hv T
  ho : MtAt W bo mo
  only : Only (fun _ => False) w W

theorem QD.step {w W : World} {len bm bo base b gp gt k : Nat} {mo : Mt} {s : Value} {j : Nat} {m : Mt} {hv : Nat → Value} {T : Nat → List (Int × Int)} (h : QD w W len bm bo base b gp gt k mo s j m hv T) (hj : j < len)
    (d1 : bm < base ∧ bm ≠ b ∧ bm ≠ gp ∧ bm ≠ gt ∧ bm ≠ bo) (d2 : bo < base ∧ bo ≠ b ∧ bo ≠ gp ∧ bo ≠ gt) (dw : w.heap.size ≤ b ∧ w.heap.size ≤ gp ∧ w.heap.size ≤ gt ∧ w.heap.size ≤ bm)
    {W0 W1 W2 W3 : World} {r : Int × Mt} {e : Ending} (o0 : Only (fun _ => False) W W0) (ok' : MtOk r.2) (hm1 : MtAt W1 bm r.2) (oo1 : Only (· = bm) W0 W1) (hr : RfStep base b gp gt k j W1 r e W2) (o3 : Only (fun _ => False) W2 W3) :
    e = .returned (.int .i64 r.1) ∧ ∃ hv' T', QD w W3 len bm bo base b gp gt k mo (.int .i64 (j + 1 : Nat)) (j + 1) r.2 hv' T' := by
  obtain ⟨hv', T', he, hr2, rok2, oo2⟩ := hr
  refine ⟨he, hv', T', hj, rfl, ok', rok2, (hm1.only oo2 ?_).only o3 id, hr2.only o3 (fun _ _ => id), (((h.ho.only o0 id).only oo1 (fun e => d1.2.2.2.2 e.symm)).only oo2 ?_).only o3 id, (((h.only.trans o0).trans' oo1 (fun i hi e => by omega)).trans' oo2 (fun i hi e => ?_)).trans o3⟩
  · rintro (e | e | e | e) <;> omega
  · rintro (e | e | e | e) <;> omega
  · have hlow := h.hr.lows
    have hb := h.only.size
    rcases e with e | e | e | e <;> omega

set_option maxHeartbeats 8000000 in
set_option maxRecDepth 100000 in
theorem quotaDoes_yes (w : World) (x0 x1 x2 x3 x4 x5 x6 x7 x8 x9 x10 x11 x12 x13 x14 : Int) (hcfg : CfgOk x0 x11 x13 x14 = true) (a : Option Addr) (len cap : Nat) (rows : List (List Value)) (hs : SliceIn w a len cap [.i .i64, .i .i64, .i .i64, .i .i64] rows) (hlen : len * 32 ≤ 140737488351232) :
    Calls Try.prog 6 #[.agg #[.int .i64 x0, .int .i64 x1, .int .i64 x2, .int .i64 x3, .int .i64 x4, .int .i64 x5, .int .i64 x6, .int .i64 x7, .int .i64 x8, .int .i64 x9, .int .i64 x10, .int .i64 x11, .int .i64 x12, .int .i64 x13, .int .i64 x14], .slice a len cap] w fun e w' => e = .returned (.bool true) ∧ Only (fun _ => False) w w' := by
  have s0 := fun w => Lib.hid (q_new x0 x1 x2 x3 x4 x5 x6 x7 x8 x9 x10 x11 x12 x13 x14 w hcfg)
  obtain ⟨kk, hk⟩ : ∃ kk : Nat, (kk : Int) = x0 + 1 := ⟨(x0 + 1).toNat, by
    simp only [CfgOk, Bool.and_eq_true] at hcfg
    have := inB_iff.1 hcfg.1.1.1
    omega⟩
  have s1 := fun w => Lib.hid (r_new x0 x1 x2 x3 x4 x5 x6 x7 x8 x9 x10 x11 x12 x13 x14 kk hk w hcfg)
  have s2 := fun w => Lib.hid (q_new 2 0 0 0 0 0 0 0 0 0 0 1 0 3 10 w rfl)
  have ok0 : MtOk (Mt.init x0 x11 x13 x14) := by
    unfold CfgOk at hcfg
    simp only [Bool.and_eq_true] at hcfg
    exact MtOk.init hcfg.1.1.1 hcfg.1.1.2 hcfg.1.2 hcfg.2
  have oko : MtOk (Mt.init 2 1 3 10) := MtOk.init rfl rfl rfl rfl
  clear hcfg hk
  have rok0 : RfOk (Mt.init x0 x11 x13 x14) kk (fun _ => []) 0 := ⟨fun _ _ x hx => absurd hx (by simp), fun i hi => by show (0 : Int) = if (0 : Int) = _ then 0 else 0; split <;> rfl, fun _ _ => by simp⟩
  obtain ⟨m0, hm00⟩ : ∃ m0, Mt.init x0 x11 x13 x14 = m0 := ⟨_, rfl⟩
  simp only [hm00] at s0
  rw [hm00] at ok0 rok0
  have HM0 := Lib.hid hm00
  clear hm00
  obtain ⟨mi, hmi⟩ : ∃ mi, mi = Mt.init 2 1 3 10 := ⟨_, rfl⟩
  rw [← hmi] at s2 oko
  have HMI := Lib.hid hmi
  clear hmi
  go_enter Try.func6, Try.ntmps6
  go_wp2_with fail
  refine (q_works _).mono ?_
  rintro e w1 ⟨rfl, o1⟩
  have hc0 : w1.cell? ⟨w.heap.size, 0, none⟩ = some (.int .i64 x0) := o1.cell (by simp [go_sem]) id
  have hc1 : w1.cell? ⟨w.heap.size, 1, none⟩ = some (.int .i64 x1) := o1.cell (by simp [go_sem]) id
  have hc2 : w1.cell? ⟨w.heap.size, 2, none⟩ = some (.int .i64 x2) := o1.cell (by simp [go_sem]) id
  have hc3 : w1.cell? ⟨w.heap.size, 3, none⟩ = some (.int .i64 x3) := o1.cell (by simp [go_sem]) id
  have hc4 : w1.cell? ⟨w.heap.size, 4, none⟩ = some (.int .i64 x4) := o1.cell (by simp [go_sem]) id
  have hc5 : w1.cell? ⟨w.heap.size, 5, none⟩ = some (.int .i64 x5) := o1.cell (by simp [go_sem]) id
  have hc6 : w1.cell? ⟨w.heap.size, 6, none⟩ = some (.int .i64 x6) := o1.cell (by simp [go_sem]) id
  have hc7 : w1.cell? ⟨w.heap.size, 7, none⟩ = some (.int .i64 x7) := o1.cell (by simp [go_sem]) id
  have hc8 : w1.cell? ⟨w.heap.size, 8, none⟩ = some (.int .i64 x8) := o1.cell (by simp [go_sem]) id
  have hc9 : w1.cell? ⟨w.heap.size, 9, none⟩ = some (.int .i64 x9) := o1.cell (by simp [go_sem]) id
  have hc10 : w1.cell? ⟨w.heap.size, 10, none⟩ = some (.int .i64 x10) := o1.cell (by simp [go_sem]) id
  have hc11 : w1.cell? ⟨w.heap.size, 11, none⟩ = some (.int .i64 x11) := o1.cell (by simp [go_sem]) id
  have hc12 : w1.cell? ⟨w.heap.size, 12, none⟩ = some (.int .i64 x12) := o1.cell (by simp [go_sem]) id
  have hc13 : w1.cell? ⟨w.heap.size, 13, none⟩ = some (.int .i64 x13) := o1.cell (by simp [go_sem]) id
  have hc14 : w1.cell? ⟨w.heap.size, 14, none⟩ = some (.int .i64 x14) := o1.cell (by simp [go_sem]) id
  have hz1 : w.heap.size < w1.heap.size := cell_lt hc0
  go_wp2_with fail
  refine (s0 _).out.mono ?_
  rintro e w2 ⟨bm, rfl, hg, hM, o2⟩
  have hd0 : w2.cell? ⟨w.heap.size, 0, none⟩ = some (.int .i64 x0) := o2.cell hc0 id
  have hd1 : w2.cell? ⟨w.heap.size, 1, none⟩ = some (.int .i64 x1) := o2.cell hc1 id
  have hd2 : w2.cell? ⟨w.heap.size, 2, none⟩ = some (.int .i64 x2) := o2.cell hc2 id
  have hd3 : w2.cell? ⟨w.heap.size, 3, none⟩ = some (.int .i64 x3) := o2.cell hc3 id
  have hd4 : w2.cell? ⟨w.heap.size, 4, none⟩ = some (.int .i64 x4) := o2.cell hc4 id
  have hd5 : w2.cell? ⟨w.heap.size, 5, none⟩ = some (.int .i64 x5) := o2.cell hc5 id
  have hd6 : w2.cell? ⟨w.heap.size, 6, none⟩ = some (.int .i64 x6) := o2.cell hc6 id
  have hd7 : w2.cell? ⟨w.heap.size, 7, none⟩ = some (.int .i64 x7) := o2.cell hc7 id
  have hd8 : w2.cell? ⟨w.heap.size, 8, none⟩ = some (.int .i64 x8) := o2.cell hc8 id
  have hd9 : w2.cell? ⟨w.heap.size, 9, none⟩ = some (.int .i64 x9) := o2.cell hc9 id
  have hd10 : w2.cell? ⟨w.heap.size, 10, none⟩ = some (.int .i64 x10) := o2.cell hc10 id
  have hd11 : w2.cell? ⟨w.heap.size, 11, none⟩ = some (.int .i64 x11) := o2.cell hc11 id
  have hd12 : w2.cell? ⟨w.heap.size, 12, none⟩ = some (.int .i64 x12) := o2.cell hc12 id
  have hd13 : w2.cell? ⟨w.heap.size, 13, none⟩ = some (.int .i64 x13) := o2.cell hc13 id
  have hd14 : w2.cell? ⟨w.heap.size, 14, none⟩ = some (.int .i64 x14) := o2.cell hc14 id
  clear hc0 hc1 hc2 hc3 hc4 hc5 hc6 hc7 hc8 hc9 hc10 hc11 hc12 hc13 hc14
  have g1 := hM.c0.lt
  go_wp2_with fail
  refine (s1 _).out.mono ?_
  rintro e w3 ⟨b, gp, gt, rfl, hR, o3, g2, g3, g4⟩
  clear hd0 hd1 hd2 hd3 hd4 hd5 hd6 hd7 hd8 hd9 hd10 hd11 hd12 hd13 hd14
  rw [HM0.out] at hR
  have hM3 := hM.only o3 id
  have p3 : Only (fun _ => False) w w3 := ((((Only.refl _ w).alloc _).trans o1).trans o2).trans o3
  have z3 := o3.size
  have lw3 := hR.lows
  clear hM o1 o2 o3
  go_wp2_with fail
  refine (q_plain _).mono ?_
  rintro e w4 ⟨rfl, o4⟩
  go_wp2_with fail
  refine (s2 _).out.mono ?_
  rintro e w5 ⟨bo, rfl, g5, hO, o5⟩
  have g6 := hO.c0.lt
  have z4 := o4.size
  have o35 : Only (fun _ => False) w3 w5 := by repeat' (first | (with_reducible exact Only.refl _ _) | (with_reducible assumption) | (refine Only.of_none ?_; with_reducible assumption) | (with_reducible refine Only.drewN ?_ _) | (with_reducible refine Only.drew ?_) | (with_reducible refine Only.alloc ?_ _) | (with_reducible refine Only.setCell ?_ ?_ _) | (with_reducible refine Only.then0 ?_ (by with_reducible assumption)) | (with_reducible refine Only.thenN ?_ (by with_reducible assumption) ?_) | (with_reducible refine Only.trans ?_ (by with_reducible assumption)) | (refine .inl ?_; first | rfl | (simp; done) | (simp [Ar.blk]; done)) | (refine .inr ?_; first | omega | (simp; done) | (simp; omega) | exact Only.size (by with_reducible assumption) | (refine Nat.le_trans (Only.size (by with_reducible assumption)) ?_; simp; done)))
  have HAC := fun W => Lib.hid (fun (h : MtAt W bo mi) => q_acts bo mi 2 1 W oko h (by omega) (by omega))
  have hOH := Lib.hid hO
  go_wp2_with fail
  refine ((HAC _).out (by have := hOH.out; exact this)).mono ?_
  intro e w6 h6
  obtain ⟨rfl, hO6, o6⟩ := h6.of'
  have oko6 := oko.acts 2 1
  have hu6 : (mi.acts 2 1).2.used 2 = (0, 1) := by rw [HMI.out]; decide
  generalize mi.acts 2 1 = ra at hO6 oko6 hu6
  obtain ⟨rv, mo⟩ := ra
  simp only at hO6 oko6 hu6
  have z6 := o6.size
  have z5 := o35.size
  have g7 : bo < w5.heap.size := hOH.out.c0.lt
  have hR6 : RfAt w5.heap.size w6 b gp gt m0 kk (fun _ => .slice none 0 0) (fun _ => []) :=
    ((hR.only o35 (fun _ _ => id)).rebase z5 (Nat.le_refl _)).only o6 (fun i hi e => by
      rcases hi with h | h | h | h <;> omega)
  have hM6 := (hM3.only o35 id).only o6 (by omega)
  have p6 : Only (fun _ => False) w w6 := (p3.trans o35).trans' o6 (fun i hi e => by omega)
  have d1 : bm < w5.heap.size ∧ bm ≠ b ∧ bm ≠ gp ∧ bm ≠ gt ∧ bm ≠ bo := by omega
  have d2 : bo < w5.heap.size ∧ bo ≠ b ∧ bo ≠ gp ∧ bo ≠ gt := by omega
  have dw : w.heap.size ≤ b ∧ w.heap.size ≤ gp ∧ w.heap.size ≤ gt ∧ w.heap.size ≤ bm := by omega
  generalize w5.heap.size = base at hR6 d1 d2
  have HST := Lib.hid (show QD w w6 len bm bo base b gp gt kk mo (.int .i64 (0 : Nat)) 0 m0 (fun _ => .slice none 0 0) (fun _ => []) from ⟨by omega, rfl, ok0, rok0, hM6, hR6, hO6, p6⟩)
  clear hR6 hM6 p6 hO6 hR o35 hM3 p3 HAC hOH oko o6 o4 o5 g1 g2 g3 g4 g5 g6 g7 hg z3 z4 z5 z6 lw3 rok0 ok0
  simp only
  go_wp2_with fail
  go_loopw [11] (fun s wr => ∃ j m hv T, QD w wr len bm bo base b gp gt kk mo s j m hv T) (fun s _ => len - (intOf s).toNat)
  case atStart => exact ⟨0, m0, _, _, HST.out⟩
  case round =>
    clear HST
    obtain ⟨j, m, hv, T, h⟩ := hrel
    obtain rfl := h.s
    have hj := h.le
    have H := Lib.hid h
    have ok := h.ok
    have rok := h.rok
    have hm0 := h.hm
    have hr0 := h.hr
    have hO0 := h.ho
    have ho := h.only
    have hjN : j ≤ 4398046511104 := by omega
    have hsep : ∀ i, RfB base b gp gt i → ¬ (i = bm) := fun i hi e => by rcases hi with h | h | h | h <;> omega
    clear h
    by_cases hlt : j < len
    · obtain ⟨B, off, ha, hB, hcell⟩ := hs.at_ (by omega) (by decide)
      subst ha
      obtain ⟨r, hr⟩ : ∃ r, rows[j]? = some r := ⟨_, List.getElem?_eq_getElem (by rw [hs.1]; exact hlt)⟩
      obtain ⟨kind, _, rfl, hw0, hf⟩ := fits_i (hs.2.1 r (List.mem_of_getElem? hr))
      obtain ⟨c, _, rfl, hw1, hf⟩ := fits_i hf
      obtain ⟨n, _, rfl, hw2, hf⟩ := fits_i hf
      obtain ⟨t, _, rfl, hw3, hf⟩ := fits_i hf
      obtain rfl := fits_nil hf
      have r0 := ho.cell (hcell j _ hr 0 _ rfl) id
      have r1 := ho.cell (hcell j _ hr 1 _ rfl) id
      have r2 := ho.cell (hcell j _ hr 2 _ rfl) id
      have r3 := ho.cell (hcell j _ hr 3 _ rfl) id
      simp only [List.length_cons, List.length_nil, Nat.zero_add, Nat.reduceAdd, Nat.add_zero] at r0 r1 r2 r3
      have hbr : B < wr.heap.size := Nat.lt_of_lt_of_le hB ho.size
      clear hcell hf hr
      have b2 := bounds_i64 hw2
      have hne : ¬ wr.heap.size = bm := by have := hm0.c0.lt; omega
      clear hw0 hw1 hw2 hw3 ho hB
      by_cases k1 : kind = 1
      · subst k1
        have HA := fun W (o : Only (fun _ => False) wr W) => Lib.hid (show Calls Try.prog 27 #[.pointer (some ⟨bm, 0, none⟩), .int .i64 c, .int .i64 n] W (MtStep bm W (m.acts c n)) from q_acts bm m c n W ok (hm0.only o id) b2.1 b2.2)
        have HB := fun W (o : Only (· = bm) wr W) => Lib.hid (show Calls Try.prog 28 #[.pointer (some ⟨b, 0, none⟩), .int .i64 c, .int .i64 n] W (RfStep base b gp gt kk j W (m.acts c n)) from r_acts base b gp gt kk hv T m j c n W ok rok hjN b2.1 b2.2 (hr0.only o hsep))
        have OKR := Lib.hid (show MtOk (m.acts c n).2 from ok.acts c n)
        generalize m.acts c n = r at HA HB OKR
        obtain ⟨rv, rm⟩ := r
        try simp only at OKR
        clear hO0 hm0 hr0 ok rok
        as_aux_lemma =>
          go_wp2_with fail
          refine (HA _ (by repeat' (first | (with_reducible exact Only.refl _ _) | (with_reducible assumption) | (refine Only.of_none ?_; with_reducible assumption) | (with_reducible refine Only.drewN ?_ _) | (with_reducible refine Only.drew ?_) | (with_reducible refine Only.alloc ?_ _) | (with_reducible refine Only.setCell ?_ ?_ _) | (with_reducible refine Only.then0 ?_ (by with_reducible assumption)) | (with_reducible refine Only.thenN ?_ (by with_reducible assumption) ?_) | (with_reducible refine Only.trans ?_ (by with_reducible assumption)) | (refine .inl ?_; first | rfl | (simp; done) | (simp [Ar.blk]; done)) | (refine .inr ?_; first | omega | (simp; done) | (simp; omega) | exact Only.size (by with_reducible assumption) | (refine Nat.le_trans (Only.size (by with_reducible assumption)) ?_; simp; done))))).out.mono ?_
          intro e w7 h6
          obtain ⟨rfl, hm1, oo1⟩ := h6.of'
          have q0 : w7.cell? ⟨wr.heap.size, 0, none⟩ = some (.int .i64 1) := oo1.cell (by simp [go_sem]) hne
          have q1 : w7.cell? ⟨wr.heap.size, 1, none⟩ = some (.int .i64 c) := oo1.cell (by simp [go_sem]) hne
          have q2 : w7.cell? ⟨wr.heap.size, 2, none⟩ = some (.int .i64 n) := oo1.cell (by simp [go_sem]) hne
          have q3 : w7.cell? ⟨wr.heap.size, 3, none⟩ = some (.int .i64 t) := oo1.cell (by simp [go_sem]) hne
          have OO1 := Lib.hid oo1
          have HM1 := Lib.hid hm1
          clear oo1 hm1
          simp only
          go_wp2_with fail
          refine (HB _ (Only.trans (Only.of_none (by repeat' (first | (with_reducible exact Only.refl _ _) | (with_reducible assumption) | (refine Only.of_none ?_; with_reducible assumption) | (with_reducible refine Only.drewN ?_ _) | (with_reducible refine Only.drew ?_) | (with_reducible refine Only.alloc ?_ _) | (with_reducible refine Only.setCell ?_ ?_ _) | (with_reducible refine Only.then0 ?_ (by with_reducible assumption)) | (with_reducible refine Only.thenN ?_ (by with_reducible assumption) ?_) | (with_reducible refine Only.trans ?_ (by with_reducible assumption)) | (refine .inl ?_; first | rfl | (simp; done) | (simp [Ar.blk]; done)) | (refine .inr ?_; first | omega | (simp; done) | (simp; omega) | exact Only.size (by with_reducible assumption) | (refine Nat.le_trans (Only.size (by with_reducible assumption)) ?_; simp; done))))) OO1.out)).out.mono ?_
          intro e w8 h7
          obtain ⟨rfl, hv', T', h'⟩ := H.out.step hlt d1 d2 dw (by repeat' (first | (with_reducible exact Only.refl _ _) | (with_reducible assumption) | (refine Only.of_none ?_; with_reducible assumption) | (with_reducible refine Only.drewN ?_ _) | (with_reducible refine Only.drew ?_) | (with_reducible refine Only.alloc ?_ _) | (with_reducible refine Only.setCell ?_ ?_ _) | (with_reducible refine Only.then0 ?_ (by with_reducible assumption)) | (with_reducible refine Only.thenN ?_ (by with_reducible assumption) ?_) | (with_reducible refine Only.trans ?_ (by with_reducible assumption)) | (refine .inl ?_; first | rfl | (simp; done) | (simp [Ar.blk]; done)) | (refine .inr ?_; first | omega | (simp; done) | (simp; omega) | exact Only.size (by with_reducible assumption) | (refine Nat.le_trans (Only.size (by with_reducible assumption)) ?_; simp; done)))) OKR.out HM1.out OO1.out h7 (Only.refl _ w8)
          have H7 := Lib.hid h'
          clear h' h7
          simp only
          go_wp2_with fail
          go_roundw
          case rel => exact ⟨j + 1, rm, hv', T', H7.out⟩
          case measure => simp [intOf]; omega
      by_cases k2 : kind = 2
      · subst k2
        have HA := fun W (o : Only (fun _ => False) wr W) => Lib.hid (show Calls Try.prog 29 #[.pointer (some ⟨bm, 0, none⟩), .int .i64 c] W (MtStep bm W (m.plan c)) from q_plan bm m c W ok (hm0.only o id))
        have HB := fun W (o : Only (· = bm) wr W) => Lib.hid (show Calls Try.prog 30 #[.pointer (some ⟨b, 0, none⟩), .int .i64 c] W (RfStep base b gp gt kk j W (m.plan c)) from r_plan base b gp gt kk hv T m j c W ok rok (hr0.only o hsep))
        have OKR := Lib.hid (show MtOk (m.plan c).2 from ok.plan c)
        generalize m.plan c = r at HA HB OKR
        obtain ⟨rv, rm⟩ := r
        try simp only at OKR
        clear hO0 hm0 hr0 ok rok
        as_aux_lemma =>
          go_wp2_with fail
          refine (HA _ (by repeat' (first | (with_reducible exact Only.refl _ _) | (with_reducible assumption) | (refine Only.of_none ?_; with_reducible assumption) | (with_reducible refine Only.drewN ?_ _) | (with_reducible refine Only.drew ?_) | (with_reducible refine Only.alloc ?_ _) | (with_reducible refine Only.setCell ?_ ?_ _) | (with_reducible refine Only.then0 ?_ (by with_reducible assumption)) | (with_reducible refine Only.thenN ?_ (by with_reducible assumption) ?_) | (with_reducible refine Only.trans ?_ (by with_reducible assumption)) | (refine .inl ?_; first | rfl | (simp; done) | (simp [Ar.blk]; done)) | (refine .inr ?_; first | omega | (simp; done) | (simp; omega) | exact Only.size (by with_reducible assumption) | (refine Nat.le_trans (Only.size (by with_reducible assumption)) ?_; simp; done))))).out.mono ?_
          intro e w7 h6
          obtain ⟨rfl, hm1, oo1⟩ := h6.of'
          have q0 : w7.cell? ⟨wr.heap.size, 0, none⟩ = some (.int .i64 2) := oo1.cell (by simp [go_sem]) hne
          have q1 : w7.cell? ⟨wr.heap.size, 1, none⟩ = some (.int .i64 c) := oo1.cell (by simp [go_sem]) hne
          have q2 : w7.cell? ⟨wr.heap.size, 2, none⟩ = some (.int .i64 n) := oo1.cell (by simp [go_sem]) hne
          have q3 : w7.cell? ⟨wr.heap.size, 3, none⟩ = some (.int .i64 t) := oo1.cell (by simp [go_sem]) hne
          have OO1 := Lib.hid oo1
          have HM1 := Lib.hid hm1
          clear oo1 hm1
          simp only
          go_wp2_with fail
          refine (HB _ (Only.trans (Only.of_none (by repeat' (first | (with_reducible exact Only.refl _ _) | (with_reducible assumption) | (refine Only.of_none ?_; with_reducible assumption) | (with_reducible refine Only.drewN ?_ _) | (with_reducible refine Only.drew ?_) | (with_reducible refine Only.alloc ?_ _) | (with_reducible refine Only.setCell ?_ ?_ _) | (with_reducible refine Only.then0 ?_ (by with_reducible assumption)) | (with_reducible refine Only.thenN ?_ (by with_reducible assumption) ?_) | (with_reducible refine Only.trans ?_ (by with_reducible assumption)) | (refine .inl ?_; first | rfl | (simp; done) | (simp [Ar.blk]; done)) | (refine .inr ?_; first | omega | (simp; done) | (simp; omega) | exact Only.size (by with_reducible assumption) | (refine Nat.le_trans (Only.size (by with_reducible assumption)) ?_; simp; done))))) OO1.out)).out.mono ?_
          intro e w8 h7
          obtain ⟨rfl, hv', T', h'⟩ := H.out.step hlt d1 d2 dw (by repeat' (first | (with_reducible exact Only.refl _ _) | (with_reducible assumption) | (refine Only.of_none ?_; with_reducible assumption) | (with_reducible refine Only.drewN ?_ _) | (with_reducible refine Only.drew ?_) | (with_reducible refine Only.alloc ?_ _) | (with_reducible refine Only.setCell ?_ ?_ _) | (with_reducible refine Only.then0 ?_ (by with_reducible assumption)) | (with_reducible refine Only.thenN ?_ (by with_reducible assumption) ?_) | (with_reducible refine Only.trans ?_ (by with_reducible assumption)) | (refine .inl ?_; first | rfl | (simp; done) | (simp [Ar.blk]; done)) | (refine .inr ?_; first | omega | (simp; done) | (simp; omega) | exact Only.size (by with_reducible assumption) | (refine Nat.le_trans (Only.size (by with_reducible assumption)) ?_; simp; done)))) OKR.out HM1.out OO1.out h7 (Only.refl _ w8)
          have H7 := Lib.hid h'
          clear h' h7
          simp only
          go_wp2_with fail
          go_roundw
          case rel => exact ⟨j + 1, rm, hv', T', H7.out⟩
          case measure => simp [intOf]; omega
      by_cases k3 : kind = 3
      · subst k3
        have HA := fun W (o : Only (fun _ => False) wr W) => Lib.hid (show Calls Try.prog 31 #[.pointer (some ⟨bm, 0, none⟩), .int .i64 c] W (MtStep bm W (m.drop c)) from q_drop bm m c W ok (hm0.only o id))
        have HB := fun W (o : Only (· = bm) wr W) => Lib.hid (show Calls Try.prog 32 #[.pointer (some ⟨b, 0, none⟩), .int .i64 c] W (RfStep base b gp gt kk j W (m.drop c)) from r_drop base b gp gt kk hv T m j c W ok rok (hr0.only o hsep))
        have OKR := Lib.hid (show MtOk (m.drop c).2 from ok.drop c)
        generalize m.drop c = r at HA HB OKR
        obtain ⟨rv, rm⟩ := r
        try simp only at OKR
        clear hO0 hm0 hr0 ok rok
        as_aux_lemma =>
          go_wp2_with fail
          refine (HA _ (by repeat' (first | (with_reducible exact Only.refl _ _) | (with_reducible assumption) | (refine Only.of_none ?_; with_reducible assumption) | (with_reducible refine Only.drewN ?_ _) | (with_reducible refine Only.drew ?_) | (with_reducible refine Only.alloc ?_ _) | (with_reducible refine Only.setCell ?_ ?_ _) | (with_reducible refine Only.then0 ?_ (by with_reducible assumption)) | (with_reducible refine Only.thenN ?_ (by with_reducible assumption) ?_) | (with_reducible refine Only.trans ?_ (by with_reducible assumption)) | (refine .inl ?_; first | rfl | (simp; done) | (simp [Ar.blk]; done)) | (refine .inr ?_; first | omega | (simp; done) | (simp; omega) | exact Only.size (by with_reducible assumption) | (refine Nat.le_trans (Only.size (by with_reducible assumption)) ?_; simp; done))))).out.mono ?_
          intro e w7 h6
          obtain ⟨rfl, hm1, oo1⟩ := h6.of'
          have q0 : w7.cell? ⟨wr.heap.size, 0, none⟩ = some (.int .i64 3) := oo1.cell (by simp [go_sem]) hne
          have q1 : w7.cell? ⟨wr.heap.size, 1, none⟩ = some (.int .i64 c) := oo1.cell (by simp [go_sem]) hne
          have q2 : w7.cell? ⟨wr.heap.size, 2, none⟩ = some (.int .i64 n) := oo1.cell (by simp [go_sem]) hne
          have q3 : w7.cell? ⟨wr.heap.size, 3, none⟩ = some (.int .i64 t) := oo1.cell (by simp [go_sem]) hne
          have OO1 := Lib.hid oo1
          have HM1 := Lib.hid hm1
          clear oo1 hm1
          simp only
          go_wp2_with fail
          refine (HB _ (Only.trans (Only.of_none (by repeat' (first | (with_reducible exact Only.refl _ _) | (with_reducible assumption) | (refine Only.of_none ?_; with_reducible assumption) | (with_reducible refine Only.drewN ?_ _) | (with_reducible refine Only.drew ?_) | (with_reducible refine Only.alloc ?_ _) | (with_reducible refine Only.setCell ?_ ?_ _) | (with_reducible refine Only.then0 ?_ (by with_reducible assumption)) | (with_reducible refine Only.thenN ?_ (by with_reducible assumption) ?_) | (with_reducible refine Only.trans ?_ (by with_reducible assumption)) | (refine .inl ?_; first | rfl | (simp; done) | (simp [Ar.blk]; done)) | (refine .inr ?_; first | omega | (simp; done) | (simp; omega) | exact Only.size (by with_reducible assumption) | (refine Nat.le_trans (Only.size (by with_reducible assumption)) ?_; simp; done))))) OO1.out)).out.mono ?_
          intro e w8 h7
          obtain ⟨rfl, hv', T', h'⟩ := H.out.step hlt d1 d2 dw (by repeat' (first | (with_reducible exact Only.refl _ _) | (with_reducible assumption) | (refine Only.of_none ?_; with_reducible assumption) | (with_reducible refine Only.drewN ?_ _) | (with_reducible refine Only.drew ?_) | (with_reducible refine Only.alloc ?_ _) | (with_reducible refine Only.setCell ?_ ?_ _) | (with_reducible refine Only.then0 ?_ (by with_reducible assumption)) | (with_reducible refine Only.thenN ?_ (by with_reducible assumption) ?_) | (with_reducible refine Only.trans ?_ (by with_reducible assumption)) | (refine .inl ?_; first | rfl | (simp; done) | (simp [Ar.blk]; done)) | (refine .inr ?_; first | omega | (simp; done) | (simp; omega) | exact Only.size (by with_reducible assumption) | (refine Nat.le_trans (Only.size (by with_reducible assumption)) ?_; simp; done)))) OKR.out HM1.out OO1.out h7 (Only.refl _ w8)
          have H7 := Lib.hid h'
          clear h' h7
          simp only
          go_wp2_with fail
          go_roundw
          case rel => exact ⟨j + 1, rm, hv', T', H7.out⟩
          case measure => simp [intOf]; omega
      by_cases k4 : kind = 4
      · subst k4
        have HA := fun W (o : Only (fun _ => False) wr W) => Lib.hid (show Calls Try.prog 33 #[.pointer (some ⟨bm, 0, none⟩), .int .i64 t] W (MtStep bm W (m.tick t)) from q_tick bm m t W (hm0.only o id))
        have HB := fun W (o : Only (· = bm) wr W) => Lib.hid (show Calls Try.prog 34 #[.pointer (some ⟨b, 0, none⟩), .int .i64 t] W (RfStep base b gp gt kk j W (m.tick t)) from r_tick base b gp gt kk hv T m j t W ok rok (hr0.only o hsep))
        have OKR := Lib.hid (show MtOk (m.tick t).2 from ok.tick t)
        generalize m.tick t = r at HA HB OKR
        obtain ⟨rv, rm⟩ := r
        try simp only at OKR
        clear hO0 hm0 hr0 ok rok
        as_aux_lemma =>
          go_wp2_with fail
          refine (HA _ (by repeat' (first | (with_reducible exact Only.refl _ _) | (with_reducible assumption) | (refine Only.of_none ?_; with_reducible assumption) | (with_reducible refine Only.drewN ?_ _) | (with_reducible refine Only.drew ?_) | (with_reducible refine Only.alloc ?_ _) | (with_reducible refine Only.setCell ?_ ?_ _) | (with_reducible refine Only.then0 ?_ (by with_reducible assumption)) | (with_reducible refine Only.thenN ?_ (by with_reducible assumption) ?_) | (with_reducible refine Only.trans ?_ (by with_reducible assumption)) | (refine .inl ?_; first | rfl | (simp; done) | (simp [Ar.blk]; done)) | (refine .inr ?_; first | omega | (simp; done) | (simp; omega) | exact Only.size (by with_reducible assumption) | (refine Nat.le_trans (Only.size (by with_reducible assumption)) ?_; simp; done))))).out.mono ?_
          intro e w7 h6
          obtain ⟨rfl, hm1, oo1⟩ := h6.of'
          have q0 : w7.cell? ⟨wr.heap.size, 0, none⟩ = some (.int .i64 4) := oo1.cell (by simp [go_sem]) hne
          have q1 : w7.cell? ⟨wr.heap.size, 1, none⟩ = some (.int .i64 c) := oo1.cell (by simp [go_sem]) hne
          have q2 : w7.cell? ⟨wr.heap.size, 2, none⟩ = some (.int .i64 n) := oo1.cell (by simp [go_sem]) hne
          have q3 : w7.cell? ⟨wr.heap.size, 3, none⟩ = some (.int .i64 t) := oo1.cell (by simp [go_sem]) hne
          have OO1 := Lib.hid oo1
          have HM1 := Lib.hid hm1
          clear oo1 hm1
          simp only
          go_wp2_with fail
          refine (HB _ (Only.trans (Only.of_none (by repeat' (first | (with_reducible exact Only.refl _ _) | (with_reducible assumption) | (refine Only.of_none ?_; with_reducible assumption) | (with_reducible refine Only.drewN ?_ _) | (with_reducible refine Only.drew ?_) | (with_reducible refine Only.alloc ?_ _) | (with_reducible refine Only.setCell ?_ ?_ _) | (with_reducible refine Only.then0 ?_ (by with_reducible assumption)) | (with_reducible refine Only.thenN ?_ (by with_reducible assumption) ?_) | (with_reducible refine Only.trans ?_ (by with_reducible assumption)) | (refine .inl ?_; first | rfl | (simp; done) | (simp [Ar.blk]; done)) | (refine .inr ?_; first | omega | (simp; done) | (simp; omega) | exact Only.size (by with_reducible assumption) | (refine Nat.le_trans (Only.size (by with_reducible assumption)) ?_; simp; done))))) OO1.out)).out.mono ?_
          intro e w8 h7
          obtain ⟨rfl, hv', T', h'⟩ := H.out.step hlt d1 d2 dw (by repeat' (first | (with_reducible exact Only.refl _ _) | (with_reducible assumption) | (refine Only.of_none ?_; with_reducible assumption) | (with_reducible refine Only.drewN ?_ _) | (with_reducible refine Only.drew ?_) | (with_reducible refine Only.alloc ?_ _) | (with_reducible refine Only.setCell ?_ ?_ _) | (with_reducible refine Only.then0 ?_ (by with_reducible assumption)) | (with_reducible refine Only.thenN ?_ (by with_reducible assumption) ?_) | (with_reducible refine Only.trans ?_ (by with_reducible assumption)) | (refine .inl ?_; first | rfl | (simp; done) | (simp [Ar.blk]; done)) | (refine .inr ?_; first | omega | (simp; done) | (simp; omega) | exact Only.size (by with_reducible assumption) | (refine Nat.le_trans (Only.size (by with_reducible assumption)) ?_; simp; done)))) OKR.out HM1.out OO1.out h7 (Only.refl _ w8)
          have H7 := Lib.hid h'
          clear h' h7
          simp only
          go_wp2_with fail
          go_roundw
          case rel => exact ⟨j + 1, rm, hv', T', H7.out⟩
          case measure => simp [intOf]; omega
      have j1 : (kind == 1) = false := by simpa using k1
      have j2 : (kind == 2) = false := by simpa using k2
      have j3 : (kind == 3) = false := by simpa using k3
      have j4 : (kind == 4) = false := by simpa using k4
      have HL := fun W (o : Only (fun _ => False) wr W) => Lib.hid (q_looks bm base b gp gt kk hv T m j W ok rok hjN (hm0.only o id) (hr0.only o (fun _ _ => id)))
      clear hO0 hm0 hr0 ok rok
      as_aux_lemma =>
        go_wp2_with fail
        refine (HL _ (by repeat' (first | (with_reducible exact Only.refl _ _) | (with_reducible assumption) | (refine Only.of_none ?_; with_reducible assumption) | (with_reducible refine Only.drewN ?_ _) | (with_reducible refine Only.drew ?_) | (with_reducible refine Only.alloc ?_ _) | (with_reducible refine Only.setCell ?_ ?_ _) | (with_reducible refine Only.then0 ?_ (by with_reducible assumption)) | (with_reducible refine Only.thenN ?_ (by with_reducible assumption) ?_) | (with_reducible refine Only.trans ?_ (by with_reducible assumption)) | (refine .inl ?_; first | rfl | (simp; done) | (simp [Ar.blk]; done)) | (refine .inr ?_; first | omega | (simp; done) | (simp; omega) | exact Only.size (by with_reducible assumption) | (refine Nat.le_trans (Only.size (by with_reducible assumption)) ?_; simp; done))))).out.mono ?_
        rintro e w7 ⟨rfl, o7⟩
        go_wp2_with fail
        go_roundw
        case rel =>
          have h := H.out
          have o8 : Only (fun _ => False) wr w7 := by repeat' (first | (with_reducible exact Only.refl _ _) | (with_reducible assumption) | (refine Only.of_none ?_; with_reducible assumption) | (with_reducible refine Only.drewN ?_ _) | (with_reducible refine Only.drew ?_) | (with_reducible refine Only.alloc ?_ _) | (with_reducible refine Only.setCell ?_ ?_ _) | (with_reducible refine Only.then0 ?_ (by with_reducible assumption)) | (with_reducible refine Only.thenN ?_ (by with_reducible assumption) ?_) | (with_reducible refine Only.trans ?_ (by with_reducible assumption)) | (refine .inl ?_; first | rfl | (simp; done) | (simp [Ar.blk]; done)) | (refine .inr ?_; first | omega | (simp; done) | (simp; omega) | exact Only.size (by with_reducible assumption) | (refine Nat.le_trans (Only.size (by with_reducible assumption)) ?_; simp; done)))
          exact ⟨j + 1, m, hv, T, ⟨hlt, rfl, h.ok, h.rok.more, h.hm.only o8 id, h.hr.only o8 (fun _ _ => id), h.ho.only o8 id, h.only.trans o8⟩⟩
        case measure => simp [intOf]; omega
    · have HL := fun W (o : Only (fun _ => False) wr W) => Lib.hid (q_looks bm base b gp gt kk hv T m j W ok rok hjN (hm0.only o id) (hr0.only o (fun _ _ => id)))
      have HU := fun W (o : Only (fun _ => False) wr W) => Lib.hid (q_used bo mo 2 W oko6 (hO0.only o id))
      rw [hu6] at HU
      clear hO0 hm0 hr0 ok rok
      go_wp2_with fail
      refine (HL _ (by repeat' (first | (with_reducible exact Only.refl _ _) | (with_reducible assumption) | (refine Only.of_none ?_; with_reducible assumption) | (with_reducible refine Only.drewN ?_ _) | (with_reducible refine Only.drew ?_) | (with_reducible refine Only.alloc ?_ _) | (with_reducible refine Only.setCell ?_ ?_ _) | (with_reducible refine Only.then0 ?_ (by with_reducible assumption)) | (with_reducible refine Only.thenN ?_ (by with_reducible assumption) ?_) | (with_reducible refine Only.trans ?_ (by with_reducible assumption)) | (refine .inl ?_; first | rfl | (simp; done) | (simp [Ar.blk]; done)) | (refine .inr ?_; first | omega | (simp; done) | (simp; omega) | exact Only.size (by with_reducible assumption) | (refine Nat.le_trans (Only.size (by with_reducible assumption)) ?_; simp; done))))).out.mono ?_
      rintro e w7 ⟨rfl, o7⟩
      go_wp2_with fail
      refine (HU _ (by repeat' (first | (with_reducible exact Only.refl _ _) | (with_reducible assumption) | (refine Only.of_none ?_; with_reducible assumption) | (with_reducible refine Only.drewN ?_ _) | (with_reducible refine Only.drew ?_) | (with_reducible refine Only.alloc ?_ _) | (with_reducible refine Only.setCell ?_ ?_ _) | (with_reducible refine Only.then0 ?_ (by with_reducible assumption)) | (with_reducible refine Only.thenN ?_ (by with_reducible assumption) ?_) | (with_reducible refine Only.trans ?_ (by with_reducible assumption)) | (refine .inl ?_; first | rfl | (simp; done) | (simp [Ar.blk]; done)) | (refine .inr ?_; first | omega | (simp; done) | (simp; omega) | exact Only.size (by with_reducible assumption) | (refine Nat.le_trans (Only.size (by with_reducible assumption)) ?_; simp; done))))).out.mono ?_
      rintro e w8 ⟨rfl, o8⟩
      go_wp2_with fail
      go_returns
      exact ⟨rfl, by repeat' (first | (with_reducible exact Only.refl _ _) | (with_reducible assumption) | (refine Only.of_none ?_; with_reducible assumption) | (with_reducible refine Only.drewN ?_ _) | (with_reducible refine Only.drew ?_) | (with_reducible refine Only.alloc ?_ _) | (with_reducible refine Only.setCell ?_ ?_ _) | (with_reducible refine Only.then0 ?_ (by with_reducible assumption)) | (with_reducible refine Only.thenN ?_ (by with_reducible assumption) ?_) | (with_reducible refine Only.trans ?_ (by with_reducible assumption)) | (refine .inl ?_; first | rfl | (simp; done) | (simp [Ar.blk]; done)) | (refine .inr ?_; first | omega | (simp; done) | (simp; omega) | exact Only.size (by with_reducible assumption) | (refine Nat.le_trans (Only.size (by with_reducible assumption)) ?_; simp; done)))⟩

theorem quotaDoes_walk (w : World) (c0 : List Value) (f0 : Fits [.i .i64, .i .i64, .i .i64, .i .i64, .i .i64, .i .i64, .i .i64, .i .i64, .i .i64, .i .i64, .i .i64, .i .i64, .i .i64, .i .i64, .i .i64] c0)
    (a : Option Addr) (len cap : Nat) (rows : List (List Value)) (hs : SliceIn w a len cap [.i .i64, .i .i64, .i .i64, .i .i64] rows) (hlen : len * 32 ≤ 140737488351232) :
    Calls Try.prog 6 #[.agg c0.toArray, .slice a len cap] w fun e w' => e = .returned (.bool true) ∧ Below w.heap.size w w' := by
  obtain ⟨x0, _, rfl, _, f0⟩ := fits_i f0
  obtain ⟨x1, _, rfl, _, f0⟩ := fits_i f0
  obtain ⟨x2, _, rfl, _, f0⟩ := fits_i f0
  obtain ⟨x3, _, rfl, _, f0⟩ := fits_i f0
  obtain ⟨x4, _, rfl, _, f0⟩ := fits_i f0
  obtain ⟨x5, _, rfl, _, f0⟩ := fits_i f0
  obtain ⟨x6, _, rfl, _, f0⟩ := fits_i f0
  obtain ⟨x7, _, rfl, _, f0⟩ := fits_i f0
  obtain ⟨x8, _, rfl, _, f0⟩ := fits_i f0
  obtain ⟨x9, _, rfl, _, f0⟩ := fits_i f0
  obtain ⟨x10, _, rfl, _, f0⟩ := fits_i f0
  obtain ⟨x11, _, rfl, _, f0⟩ := fits_i f0
  obtain ⟨x12, _, rfl, _, f0⟩ := fits_i f0
  obtain ⟨x13, _, rfl, _, f0⟩ := fits_i f0
  obtain ⟨x14, _, rfl, _, f0⟩ := fits_i f0
  obtain rfl := fits_nil f0
  cases h : CfgOk x0 x11 x13 x14
  · exact (quotaDoes_no w x0 x1 x2 x3 x4 x5 x6 x7 x8 x9 x10 x11 x12 x13 x14 h a len cap).mono fun _ _ ⟨he, ho⟩ => ⟨he, ho.below⟩
  · exact (quotaDoes_yes w x0 x1 x2 x3 x4 x5 x6 x7 x8 x9 x10 x11 x12 x13 x14 h a len cap rows hs hlen).mono fun _ _ ⟨he, ho⟩ => ⟨he, ho.below⟩
end Go.Proofs.Ytiiflgihjnlmcaa
