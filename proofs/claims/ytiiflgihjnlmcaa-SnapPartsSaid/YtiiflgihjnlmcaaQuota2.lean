/- The contracts of package quota, more: Acts, Plan, Drop, Tick, Used. Conditions: the meter's numbers lie in their ranges. -/
import Derived.Test.YtiiflgihjnlmcaaQuota1
namespace Go.Proofs.Ytiiflgihjnlmcaa
set_option linter.unusedVariables false
set_option linter.unusedSimpArgs false
open Go.RowKit

/-- The meter is as the pure step says; nothing else that lay there has turned. -/
def MtStep (b : Nat) (w : World) (r : Int × Mt) (e : Ending) (w' : World) : Prop := e = .returned (.int .i64 r.1) ∧ MtAt w' b r.2 ∧ Only (· = b) w w'

theorem MtStep.stay {b : Nat} {w w' : World} {m : Mt} {x : Int} (h : MtAt w b m) (k : Only (fun _ => False) w w') : MtStep b w (x, m) (.returned (.int .i64 x)) w' :=
  ⟨rfl, h.only k id, k.mono fun _ _ h => h.elim⟩

set_option maxHeartbeats 400000 in
theorem q_used (b : Nat) (m : Mt) (c : Int) (w : World) (ok : MtOk m) (h : MtAt w b m) :
    Calls Try.prog 36 #[.pointer (some ⟨b, 0, none⟩), .int .i64 c] w fun e w' => e = .returned (.tuple #[.int .i64 (m.used c).1, .int .i64 (m.used c).2]) ∧ Only (fun _ => False) w w' := by
  by_cases hm : m.is c
  · have HQ := Lib.hid (q_of_yes b m c w ok hm h)
    have e1 : m.used c = ((m.us c.toNat).1, m.eff c.toNat) := by unfold Mt.used; rw [if_pos hm]
    rw [e1]
    clear e1 ok hm h
    simp only
    generalize (m.us c.toNat).1 = p at *
    generalize m.eff c.toNat = a at *
    generalize m.w = u at *
    clear m
    go_enter Try.func36, Try.ntmps36
    go_wp2_with ((go_at_call 85; refine HQ.out.mono ?_; rintro e w1 ⟨rfl, ho⟩))
    go_quiet (fail)
    go_wp2
    go_returns
    exact ⟨rfl, by repeat' (first | (with_reducible exact Only.refl _ _) | (with_reducible assumption) | (refine Only.of_none ?_; with_reducible assumption) | (with_reducible refine Only.drewN ?_ _) | (with_reducible refine Only.drew ?_) | (with_reducible refine Only.alloc ?_ _) | (with_reducible refine Only.setCell ?_ ?_ _) | (with_reducible refine Only.then0 ?_ (by with_reducible assumption)) | (with_reducible refine Only.thenN ?_ (by with_reducible assumption) ?_) | (with_reducible refine Only.trans ?_ (by with_reducible assumption)) | (refine .inl ?_; first | rfl | (simp; done) | (simp [Ar.blk]; done)) | (refine .inr ?_; first | omega | (simp; done) | (simp; omega) | exact Only.size (by with_reducible assumption) | (refine Nat.le_trans (Only.size (by with_reducible assumption)) ?_; simp; done)))⟩
  · have HQ := Lib.hid (q_of_no b m c w hm h)
    have e1 : m.used c = (0, 0) := by unfold Mt.used; rw [if_neg hm]
    rw [e1]
    clear e1 ok hm h
    simp only
    clear m
    go_enter Try.func36, Try.ntmps36
    go_wp2_with ((go_at_call 85; refine HQ.out.mono ?_; rintro e w1 ⟨rfl, ho⟩))
    go_quiet (fail)
    go_wp2
    go_returns
    exact ⟨rfl, by repeat' (first | (with_reducible exact Only.refl _ _) | (with_reducible assumption) | (refine Only.of_none ?_; with_reducible assumption) | (with_reducible refine Only.drewN ?_ _) | (with_reducible refine Only.drew ?_) | (with_reducible refine Only.alloc ?_ _) | (with_reducible refine Only.setCell ?_ ?_ _) | (with_reducible refine Only.then0 ?_ (by with_reducible assumption)) | (with_reducible refine Only.thenN ?_ (by with_reducible assumption) ?_) | (with_reducible refine Only.trans ?_ (by with_reducible assumption)) | (refine .inl ?_; first | rfl | (simp; done) | (simp [Ar.blk]; done)) | (refine .inr ?_; first | omega | (simp; done) | (simp; omega) | exact Only.size (by with_reducible assumption) | (refine Nat.le_trans (Only.size (by with_reducible assumption)) ?_; simp; done)))⟩

set_option maxHeartbeats 400000 in
theorem q_acts_no (b : Nat) (m : Mt) (c n : Int) (w : World) (hm : ¬ m.is c) (h : MtAt w b m) :
    Calls Try.prog 27 #[.pointer (some ⟨b, 0, none⟩), .int .i64 c, .int .i64 n] w (MtStep b w (1, m)) := by
  have HQ := Lib.hid (q_of_no b m c w hm h)
  have HS := fun w' => Lib.hid (MtStep.stay (x := 1) (w' := w') h)
  generalize MtStep b w (1, m) = R at *
  clear hm h
  go_enter Try.func27, Try.ntmps27
  go_wp2_with ((go_at_call 85; refine HQ.out.mono ?_; rintro e w1 ⟨rfl, ho⟩))
  exact (HS _).out (by repeat' (first | (with_reducible exact Only.refl _ _) | (with_reducible assumption) | (refine Only.of_none ?_; with_reducible assumption) | (with_reducible refine Only.drewN ?_ _) | (with_reducible refine Only.drew ?_) | (with_reducible refine Only.alloc ?_ _) | (with_reducible refine Only.setCell ?_ ?_ _) | (with_reducible refine Only.then0 ?_ (by with_reducible assumption)) | (with_reducible refine Only.thenN ?_ (by with_reducible assumption) ?_) | (with_reducible refine Only.trans ?_ (by with_reducible assumption)) | (refine .inl ?_; first | rfl | (simp; done) | (simp [Ar.blk]; done)) | (refine .inr ?_; first | omega | (simp; done) | (simp; omega) | exact Only.size (by with_reducible assumption) | (refine Nat.le_trans (Only.size (by with_reducible assumption)) ?_; simp; done))))

set_option maxHeartbeats 400000 in
theorem q_acts (b : Nat) (m : Mt) (c n : Int) (w : World) (ok : MtOk m) (h : MtAt w b m) (hn : -9223372036854775808 ≤ n) (hn' : n ≤ 9223372036854775807) :
    Calls Try.prog 27 #[.pointer (some ⟨b, 0, none⟩), .int .i64 c, .int .i64 n] w (MtStep b w (m.acts c n)) := by
  by_cases hm : m.is c
  · have HQ := Lib.hid (q_of_yes b m c w ok hm h)
    have hlt := h.c0.lt
    have HC := fun w' (k : Only (fun _ => False) w w') => Lib.hid (h.only k id)
    have he := ok.eff c.toNat
    have ha := ok.ac6
    have hk : c.toNat < 9 := by have := hm.2; have := ok.cl8; omega
    by_cases h1 : n < 0
    · have e1 : m.acts c n = (1, m) := by unfold Mt.acts; rw [if_pos (.inr h1)]
      have HS := fun w' => Lib.hid (MtStep.stay (x := 1) (w' := w') h)
      rw [e1]
      generalize MtStep b w (1, m) = R at *
      generalize (m.us c.toNat).1 = p at *
      generalize m.eff c.toNat = a at *
      generalize m.w = u at *
      clear HC e1 he ha ok hm h
      clear m
      go_enter Try.func27, Try.ntmps27
      go_wp2_with ((go_at_call 85; refine HQ.out.mono ?_; rintro e w1 ⟨rfl, ho⟩))
      exact (HS _).out (by repeat' (first | (with_reducible exact Only.refl _ _) | (with_reducible assumption) | (refine Only.of_none ?_; with_reducible assumption) | (with_reducible refine Only.drewN ?_ _) | (with_reducible refine Only.drew ?_) | (with_reducible refine Only.alloc ?_ _) | (with_reducible refine Only.setCell ?_ ?_ _) | (with_reducible refine Only.then0 ?_ (by with_reducible assumption)) | (with_reducible refine Only.thenN ?_ (by with_reducible assumption) ?_) | (with_reducible refine Only.trans ?_ (by with_reducible assumption)) | (refine .inl ?_; first | rfl | (simp; done) | (simp [Ar.blk]; done)) | (refine .inr ?_; first | omega | (simp; done) | (simp; omega) | exact Only.size (by with_reducible assumption) | (refine Nat.le_trans (Only.size (by with_reducible assumption)) ?_; simp; done))))
    · have h0 : 0 ≤ n := by omega
      by_cases h2 : n > m.ac - m.eff c.toNat
      · have e1 : m.acts c n = (220, m) := by unfold Mt.acts; rw [if_neg (fun h => h.elim (fun h => h hm) (fun h => h1 h)), if_pos h2]
        have HS := fun w' => Lib.hid (MtStep.stay (x := 220) (w' := w') h)
        have hc := fun w' (k : Only (fun _ => False) w w') => (h.only k id).c13.cell
        rw [e1]
        generalize MtStep b w (220, m) = R at *
        generalize (m.us c.toNat).1 = p at *
        generalize m.eff c.toNat = a at *
        generalize m.w = u at *
        generalize m.ac = ac at *
        clear HC e1 ok hm h h1
        clear m
        have HCC := Lib.hid hc
        clear hc
        go_enter Try.func27, Try.ntmps27
        go_wp2_with ((go_at_call 85; refine HQ.out.mono ?_; rintro e w1 ⟨rfl, ho⟩; have c13 := HCC.out w1 ho; have hlt1 : b < w1.heap.size := cell_lt c13))
        go_quiet (fail)
        go_wp2
        exact (HS _).out (by repeat' (first | (with_reducible exact Only.refl _ _) | (with_reducible assumption) | (refine Only.of_none ?_; with_reducible assumption) | (with_reducible refine Only.drewN ?_ _) | (with_reducible refine Only.drew ?_) | (with_reducible refine Only.alloc ?_ _) | (with_reducible refine Only.setCell ?_ ?_ _) | (with_reducible refine Only.then0 ?_ (by with_reducible assumption)) | (with_reducible refine Only.thenN ?_ (by with_reducible assumption) ?_) | (with_reducible refine Only.trans ?_ (by with_reducible assumption)) | (refine .inl ?_; first | rfl | (simp; done) | (simp [Ar.blk]; done)) | (refine .inr ?_; first | omega | (simp; done) | (simp; omega) | exact Only.size (by with_reducible assumption) | (refine Nat.le_trans (Only.size (by with_reducible assumption)) ?_; simp; done))))
      · have e1 : m.acts c n = (0, m.put c.toNat ((m.us c.toNat).1, m.eff c.toNat + n, m.w)) := by unfold Mt.acts; rw [if_neg (fun h => h.elim (fun h => h hm) (fun h => h1 h)), if_neg h2]
        rw [e1]
        have hc := fun w' (k : Only (fun _ => False) w w') => (h.only k id)
        have HCC := Lib.hid hc
        have HP : ∀ w', MtAt w' b m → Only (fun _ => False) w w' → ∀ x y z, MtAt (((w'.setCell ⟨b, 16 + c.toNat * 3, none⟩ (.int .i64 x)).setCell ⟨b, 16 + c.toNat * 3 + 1, none⟩ (.int .i64 y)).setCell ⟨b, 16 + c.toNat * 3 + 2, none⟩ (.int .i64 z)) b (m.put c.toNat (x, y, z)) := fun w' h' _ x y z => h'.put hk x y z
        have HPP := Lib.hid HP
        clear hc HP HC ok h e1
        have hc1 : 1 ≤ c := hm.1
        have h3 : n ≤ m.ac - m.eff c.toNat := by omega
        have h4 : n + m.eff c.toNat ≤ 1000000 := by omega
        clear hm h1 h2
        unfold MtStep
        simp only
        generalize hac : m.ac = ac at *
        generalize hp : (m.us c.toNat).1 = p at *
        generalize ha : m.eff c.toNat = a at *
        generalize hu : m.w = u at *
        have HA := Lib.hid hac
        have HPP0 := Lib.hid hp
        clear hac hp ha hu
        go_enter Try.func27, Try.ntmps27
        go_wp2_with ((go_at_call 85; refine HQ.out.mono ?_; rintro e w1 ⟨rfl, ho⟩; have hM := HCC.out w1 ho; have c13 := hM.c13.cell; rw [HA.out] at c13; have hlt1 : b < w1.heap.size := cell_lt c13; have f0 := (hM.u0 _ hk).free; have f1 := (hM.u1 _ hk).free; have f2 := (hM.u2 _ hk).free; have d0 := (hM.u0 _ hk).cell; have d1 := (hM.u1 _ hk).cell; have d2 := (hM.u2 _ hk).cell; have HMM := Lib.hid hM; clear hM))
        go_quiet (fail)
        go_wp2
        go_region
        go_wp2
        go_returns
        refine ⟨rfl, ?_, by repeat' (first | (with_reducible exact Only.refl _ _) | (with_reducible assumption) | (refine Only.of_none ?_; with_reducible assumption) | (with_reducible refine Only.drewN ?_ _) | (with_reducible refine Only.drew ?_) | (with_reducible refine Only.alloc ?_ _) | (with_reducible refine Only.setCell ?_ ?_ _) | (with_reducible refine Only.then0 ?_ (by with_reducible assumption)) | (with_reducible refine Only.thenN ?_ (by with_reducible assumption) ?_) | (with_reducible refine Only.trans ?_ (by with_reducible assumption)) | (refine .inl ?_; first | rfl | (simp; done) | (simp [Ar.blk]; done)) | (refine .inr ?_; first | omega | (simp; done) | (simp; omega) | exact Only.size (by with_reducible assumption) | (refine Nat.le_trans (Only.size (by with_reducible assumption)) ?_; simp; done)))⟩
        repeat (first | (with_reducible refine MtAt.drew ?_) | (with_reducible refine MtAt.drewN ?_ _) | (with_reducible refine MtAt.alloc ?_ _))
        exact HPP.out _ (HCC.out _ (by repeat' (first | (with_reducible exact Only.refl _ _) | (with_reducible assumption) | (refine Only.of_none ?_; with_reducible assumption) | (with_reducible refine Only.drewN ?_ _) | (with_reducible refine Only.drew ?_) | (with_reducible refine Only.alloc ?_ _) | (with_reducible refine Only.setCell ?_ ?_ _) | (with_reducible refine Only.then0 ?_ (by with_reducible assumption)) | (with_reducible refine Only.thenN ?_ (by with_reducible assumption) ?_) | (with_reducible refine Only.trans ?_ (by with_reducible assumption)) | (refine .inl ?_; first | rfl | (simp; done) | (simp [Ar.blk]; done)) | (refine .inr ?_; first | omega | (simp; done) | (simp; omega) | exact Only.size (by with_reducible assumption) | (refine Nat.le_trans (Only.size (by with_reducible assumption)) ?_; simp; done))))) (by repeat' (first | (with_reducible exact Only.refl _ _) | (with_reducible assumption) | (refine Only.of_none ?_; with_reducible assumption) | (with_reducible refine Only.drewN ?_ _) | (with_reducible refine Only.drew ?_) | (with_reducible refine Only.alloc ?_ _) | (with_reducible refine Only.setCell ?_ ?_ _) | (with_reducible refine Only.then0 ?_ (by with_reducible assumption)) | (with_reducible refine Only.thenN ?_ (by with_reducible assumption) ?_) | (with_reducible refine Only.trans ?_ (by with_reducible assumption)) | (refine .inl ?_; first | rfl | (simp; done) | (simp [Ar.blk]; done)) | (refine .inr ?_; first | omega | (simp; done) | (simp; omega) | exact Only.size (by with_reducible assumption) | (refine Nat.le_trans (Only.size (by with_reducible assumption)) ?_; simp; done)))) _ _ _
  · have e1 : m.acts c n = (1, m) := by unfold Mt.acts; rw [if_pos (.inl hm)]
    rw [e1]
    exact q_acts_no b m c n w hm h

set_option maxHeartbeats 400000 in
theorem q_plan_no (b : Nat) (m : Mt) (c : Int) (w : World) (hm : ¬ m.is c) (h : MtAt w b m) :
    Calls Try.prog 29 #[.pointer (some ⟨b, 0, none⟩), .int .i64 c] w (MtStep b w (1, m)) := by
  have HQ := Lib.hid (q_of_no b m c w hm h)
  have HS := fun w' => Lib.hid (MtStep.stay (x := 1) (w' := w') h)
  generalize MtStep b w (1, m) = R at *
  clear hm h
  go_enter Try.func29, Try.ntmps29
  go_wp2_with ((go_at_call 85; refine HQ.out.mono ?_; rintro e w1 ⟨rfl, ho⟩))
  exact (HS _).out (by repeat' (first | (with_reducible exact Only.refl _ _) | (with_reducible assumption) | (refine Only.of_none ?_; with_reducible assumption) | (with_reducible refine Only.drewN ?_ _) | (with_reducible refine Only.drew ?_) | (with_reducible refine Only.alloc ?_ _) | (with_reducible refine Only.setCell ?_ ?_ _) | (with_reducible refine Only.then0 ?_ (by with_reducible assumption)) | (with_reducible refine Only.thenN ?_ (by with_reducible assumption) ?_) | (with_reducible refine Only.trans ?_ (by with_reducible assumption)) | (refine .inl ?_; first | rfl | (simp; done) | (simp [Ar.blk]; done)) | (refine .inr ?_; first | omega | (simp; done) | (simp; omega) | exact Only.size (by with_reducible assumption) | (refine Nat.le_trans (Only.size (by with_reducible assumption)) ?_; simp; done))))

set_option maxHeartbeats 400000 in
theorem q_plan (b : Nat) (m : Mt) (c : Int) (w : World) (ok : MtOk m) (h : MtAt w b m) :
    Calls Try.prog 29 #[.pointer (some ⟨b, 0, none⟩), .int .i64 c] w (MtStep b w (m.plan c)) := by
  by_cases hm : m.is c
  · have HQ := Lib.hid (q_of_yes b m c w ok hm h)
    have hlt := h.c0.lt
    have hk : c.toNat < 9 := by have := hm.2; have := ok.cl8; omega
    have hp0 := ok.p0 c.toNat
    have hp1 := ok.p1 c.toNat
    have hst8 := ok.st8
    by_cases h2 : (m.us c.toNat).1 ≥ m.st
    · have e1 : m.plan c = (222, m) := by unfold Mt.plan; rw [if_neg (fun h => h hm), if_pos h2]
      have HS := fun w' => Lib.hid (MtStep.stay (x := 222) (w' := w') h)
      have hc := fun w' (k : Only (fun _ => False) w w') => (h.only k id).c11.cell
      rw [e1]
      generalize MtStep b w (222, m) = R at *
      generalize (m.us c.toNat).1 = p at *
      generalize m.eff c.toNat = a at *
      generalize m.w = u at *
      generalize m.st = ac at *
      clear e1 ok hm h
      try clear hst8
      clear m
      have HCC := Lib.hid hc
      clear hc
      skip
      go_enter Try.func29, Try.ntmps29
      go_wp2_with ((go_at_call 85; refine HQ.out.mono ?_; rintro e w1 ⟨rfl, ho⟩; have c13 := HCC.out w1 ho; have hlt1 : b < w1.heap.size := cell_lt c13))
      try (go_quiet (fail))
      try go_wp2
      exact (HS _).out (by repeat' (first | (with_reducible exact Only.refl _ _) | (with_reducible assumption) | (refine Only.of_none ?_; with_reducible assumption) | (with_reducible refine Only.drewN ?_ _) | (with_reducible refine Only.drew ?_) | (with_reducible refine Only.alloc ?_ _) | (with_reducible refine Only.setCell ?_ ?_ _) | (with_reducible refine Only.then0 ?_ (by with_reducible assumption)) | (with_reducible refine Only.thenN ?_ (by with_reducible assumption) ?_) | (with_reducible refine Only.trans ?_ (by with_reducible assumption)) | (refine .inl ?_; first | rfl | (simp; done) | (simp [Ar.blk]; done)) | (refine .inr ?_; first | omega | (simp; done) | (simp; omega) | exact Only.size (by with_reducible assumption) | (refine Nat.le_trans (Only.size (by with_reducible assumption)) ?_; simp; done))))
    · have e1 : m.plan c = (0, m.put c.toNat ((m.us c.toNat).1 + 1, m.eff c.toNat, m.w)) := by unfold Mt.plan; rw [if_neg (fun h => h hm), if_neg h2]
      rw [e1]
      have hc := fun w' (k : Only (fun _ => False) w w') => (h.only k id)
      have HCC := Lib.hid hc
      have HP : ∀ w', MtAt w' b m → Only (fun _ => False) w w' → ∀ x y z, MtAt (((w'.setCell ⟨b, 16 + c.toNat * 3, none⟩ (.int .i64 x)).setCell ⟨b, 16 + c.toNat * 3 + 1, none⟩ (.int .i64 y)).setCell ⟨b, 16 + c.toNat * 3 + 2, none⟩ (.int .i64 z)) b (m.put c.toNat (x, y, z)) := fun w' h' _ x y z => h'.put hk x y z
      have HPP := Lib.hid HP
      clear hc HP ok h e1
      have hc1 : 1 ≤ c := hm.1
      have h3 : (m.us c.toNat).1 < m.st := by omega
      clear hm h2
      unfold MtStep
      simp only
      generalize hac : m.st = ac at *
      generalize hp : (m.us c.toNat).1 = p at *
      generalize ha : m.eff c.toNat = a at *
      generalize hu : m.w = u at *
      have HA := Lib.hid hac
      clear hac hp ha hu
      go_enter Try.func29, Try.ntmps29
      go_wp2_with ((go_at_call 85; refine HQ.out.mono ?_; rintro e w1 ⟨rfl, ho⟩; have hM := HCC.out w1 ho; have c13 := hM.c11.cell; rw [HA.out] at c13; have hlt1 : b < w1.heap.size := cell_lt c13; have f0 := (hM.u0 _ hk).free; have f1 := (hM.u1 _ hk).free; have f2 := (hM.u2 _ hk).free; have d0 := (hM.u0 _ hk).cell; have d1 := (hM.u1 _ hk).cell; have d2 := (hM.u2 _ hk).cell; have HMM := Lib.hid hM; clear hM))
      try (go_quiet (fail))
      try go_wp2
      go_region
      go_wp2
      go_returns
      refine ⟨rfl, ?_, by repeat' (first | (with_reducible exact Only.refl _ _) | (with_reducible assumption) | (refine Only.of_none ?_; with_reducible assumption) | (with_reducible refine Only.drewN ?_ _) | (with_reducible refine Only.drew ?_) | (with_reducible refine Only.alloc ?_ _) | (with_reducible refine Only.setCell ?_ ?_ _) | (with_reducible refine Only.then0 ?_ (by with_reducible assumption)) | (with_reducible refine Only.thenN ?_ (by with_reducible assumption) ?_) | (with_reducible refine Only.trans ?_ (by with_reducible assumption)) | (refine .inl ?_; first | rfl | (simp; done) | (simp [Ar.blk]; done)) | (refine .inr ?_; first | omega | (simp; done) | (simp; omega) | exact Only.size (by with_reducible assumption) | (refine Nat.le_trans (Only.size (by with_reducible assumption)) ?_; simp; done)))⟩
      repeat (first | (with_reducible refine MtAt.drew ?_) | (with_reducible refine MtAt.drewN ?_ _) | (with_reducible refine MtAt.alloc ?_ _))
      exact HPP.out _ (HCC.out _ (by repeat' (first | (with_reducible exact Only.refl _ _) | (with_reducible assumption) | (refine Only.of_none ?_; with_reducible assumption) | (with_reducible refine Only.drewN ?_ _) | (with_reducible refine Only.drew ?_) | (with_reducible refine Only.alloc ?_ _) | (with_reducible refine Only.setCell ?_ ?_ _) | (with_reducible refine Only.then0 ?_ (by with_reducible assumption)) | (with_reducible refine Only.thenN ?_ (by with_reducible assumption) ?_) | (with_reducible refine Only.trans ?_ (by with_reducible assumption)) | (refine .inl ?_; first | rfl | (simp; done) | (simp [Ar.blk]; done)) | (refine .inr ?_; first | omega | (simp; done) | (simp; omega) | exact Only.size (by with_reducible assumption) | (refine Nat.le_trans (Only.size (by with_reducible assumption)) ?_; simp; done))))) (by repeat' (first | (with_reducible exact Only.refl _ _) | (with_reducible assumption) | (refine Only.of_none ?_; with_reducible assumption) | (with_reducible refine Only.drewN ?_ _) | (with_reducible refine Only.drew ?_) | (with_reducible refine Only.alloc ?_ _) | (with_reducible refine Only.setCell ?_ ?_ _) | (with_reducible refine Only.then0 ?_ (by with_reducible assumption)) | (with_reducible refine Only.thenN ?_ (by with_reducible assumption) ?_) | (with_reducible refine Only.trans ?_ (by with_reducible assumption)) | (refine .inl ?_; first | rfl | (simp; done) | (simp [Ar.blk]; done)) | (refine .inr ?_; first | omega | (simp; done) | (simp; omega) | exact Only.size (by with_reducible assumption) | (refine Nat.le_trans (Only.size (by with_reducible assumption)) ?_; simp; done)))) _ _ _
  · have e1 : m.plan c = (1, m) := by unfold Mt.plan; rw [if_pos hm]
    rw [e1]
    exact q_plan_no b m c w hm h

set_option maxHeartbeats 400000 in
theorem q_drop_no (b : Nat) (m : Mt) (c : Int) (w : World) (hm : ¬ m.is c) (h : MtAt w b m) :
    Calls Try.prog 31 #[.pointer (some ⟨b, 0, none⟩), .int .i64 c] w (MtStep b w (1, m)) := by
  have HQ := Lib.hid (q_of_no b m c w hm h)
  have HS := fun w' => Lib.hid (MtStep.stay (x := 1) (w' := w') h)
  generalize MtStep b w (1, m) = R at *
  clear hm h
  go_enter Try.func31, Try.ntmps31
  go_wp2_with ((go_at_call 85; refine HQ.out.mono ?_; rintro e w1 ⟨rfl, ho⟩))
  exact (HS _).out (by repeat' (first | (with_reducible exact Only.refl _ _) | (with_reducible assumption) | (refine Only.of_none ?_; with_reducible assumption) | (with_reducible refine Only.drewN ?_ _) | (with_reducible refine Only.drew ?_) | (with_reducible refine Only.alloc ?_ _) | (with_reducible refine Only.setCell ?_ ?_ _) | (with_reducible refine Only.then0 ?_ (by with_reducible assumption)) | (with_reducible refine Only.thenN ?_ (by with_reducible assumption) ?_) | (with_reducible refine Only.trans ?_ (by with_reducible assumption)) | (refine .inl ?_; first | rfl | (simp; done) | (simp [Ar.blk]; done)) | (refine .inr ?_; first | omega | (simp; done) | (simp; omega) | exact Only.size (by with_reducible assumption) | (refine Nat.le_trans (Only.size (by with_reducible assumption)) ?_; simp; done))))

set_option maxHeartbeats 400000 in
theorem q_drop (b : Nat) (m : Mt) (c : Int) (w : World) (ok : MtOk m) (h : MtAt w b m) :
    Calls Try.prog 31 #[.pointer (some ⟨b, 0, none⟩), .int .i64 c] w (MtStep b w (m.drop c)) := by
  by_cases hm : m.is c
  · have HQ := Lib.hid (q_of_yes b m c w ok hm h)
    have hlt := h.c0.lt
    have hk : c.toNat < 9 := by have := hm.2; have := ok.cl8; omega
    have hp0 := ok.p0 c.toNat
    have hp1 := ok.p1 c.toNat
    have hst8 := ok.st8
    by_cases h2 : (m.us c.toNat).1 = 0
    · have e1 : m.drop c = (222, m) := by unfold Mt.drop; rw [if_neg (fun h => h hm), if_pos h2]
      have HS := fun w' => Lib.hid (MtStep.stay (x := 222) (w' := w') h)
      have hc := fun w' (k : Only (fun _ => False) w w') => (h.only k id).c11.cell
      rw [e1]
      generalize MtStep b w (222, m) = R at *
      generalize (m.us c.toNat).1 = p at *
      generalize m.eff c.toNat = a at *
      generalize m.w = u at *
      generalize m.st = ac at *
      clear e1 ok hm h
      try clear hst8
      clear m
      have HCC := Lib.hid hc
      clear hc
      subst h2
      go_enter Try.func31, Try.ntmps31
      go_wp2_with ((go_at_call 85; refine HQ.out.mono ?_; rintro e w1 ⟨rfl, ho⟩; have c13 := HCC.out w1 ho; have hlt1 : b < w1.heap.size := cell_lt c13))
      try (go_quiet (fail))
      try go_wp2
      exact (HS _).out (by repeat' (first | (with_reducible exact Only.refl _ _) | (with_reducible assumption) | (refine Only.of_none ?_; with_reducible assumption) | (with_reducible refine Only.drewN ?_ _) | (with_reducible refine Only.drew ?_) | (with_reducible refine Only.alloc ?_ _) | (with_reducible refine Only.setCell ?_ ?_ _) | (with_reducible refine Only.then0 ?_ (by with_reducible assumption)) | (with_reducible refine Only.thenN ?_ (by with_reducible assumption) ?_) | (with_reducible refine Only.trans ?_ (by with_reducible assumption)) | (refine .inl ?_; first | rfl | (simp; done) | (simp [Ar.blk]; done)) | (refine .inr ?_; first | omega | (simp; done) | (simp; omega) | exact Only.size (by with_reducible assumption) | (refine Nat.le_trans (Only.size (by with_reducible assumption)) ?_; simp; done))))
    · have e1 : m.drop c = (0, m.put c.toNat ((m.us c.toNat).1 - 1, m.eff c.toNat, m.w)) := by unfold Mt.drop; rw [if_neg (fun h => h hm), if_neg h2]
      rw [e1]
      have hc := fun w' (k : Only (fun _ => False) w w') => (h.only k id)
      have HCC := Lib.hid hc
      have HP : ∀ w', MtAt w' b m → Only (fun _ => False) w w' → ∀ x y z, MtAt (((w'.setCell ⟨b, 16 + c.toNat * 3, none⟩ (.int .i64 x)).setCell ⟨b, 16 + c.toNat * 3 + 1, none⟩ (.int .i64 y)).setCell ⟨b, 16 + c.toNat * 3 + 2, none⟩ (.int .i64 z)) b (m.put c.toNat (x, y, z)) := fun w' h' _ x y z => h'.put hk x y z
      have HPP := Lib.hid HP
      clear hc HP ok h e1
      have hc1 : 1 ≤ c := hm.1
      have h3 : 0 < (m.us c.toNat).1 := by omega
      clear hm h2
      unfold MtStep
      simp only
      generalize hac : m.st = ac at *
      generalize hp : (m.us c.toNat).1 = p at *
      generalize ha : m.eff c.toNat = a at *
      generalize hu : m.w = u at *
      have HA := Lib.hid hac
      clear hac hp ha hu
      go_enter Try.func31, Try.ntmps31
      go_wp2_with ((go_at_call 85; refine HQ.out.mono ?_; rintro e w1 ⟨rfl, ho⟩; have hM := HCC.out w1 ho; have c13 := hM.c11.cell; rw [HA.out] at c13; have hlt1 : b < w1.heap.size := cell_lt c13; have f0 := (hM.u0 _ hk).free; have f1 := (hM.u1 _ hk).free; have f2 := (hM.u2 _ hk).free; have d0 := (hM.u0 _ hk).cell; have d1 := (hM.u1 _ hk).cell; have d2 := (hM.u2 _ hk).cell; have HMM := Lib.hid hM; clear hM))
      try (go_quiet (fail))
      try go_wp2
      go_region
      go_wp2
      go_returns
      refine ⟨rfl, ?_, by repeat' (first | (with_reducible exact Only.refl _ _) | (with_reducible assumption) | (refine Only.of_none ?_; with_reducible assumption) | (with_reducible refine Only.drewN ?_ _) | (with_reducible refine Only.drew ?_) | (with_reducible refine Only.alloc ?_ _) | (with_reducible refine Only.setCell ?_ ?_ _) | (with_reducible refine Only.then0 ?_ (by with_reducible assumption)) | (with_reducible refine Only.thenN ?_ (by with_reducible assumption) ?_) | (with_reducible refine Only.trans ?_ (by with_reducible assumption)) | (refine .inl ?_; first | rfl | (simp; done) | (simp [Ar.blk]; done)) | (refine .inr ?_; first | omega | (simp; done) | (simp; omega) | exact Only.size (by with_reducible assumption) | (refine Nat.le_trans (Only.size (by with_reducible assumption)) ?_; simp; done)))⟩
      repeat (first | (with_reducible refine MtAt.drew ?_) | (with_reducible refine MtAt.drewN ?_ _) | (with_reducible refine MtAt.alloc ?_ _))
      exact HPP.out _ (HCC.out _ (by repeat' (first | (with_reducible exact Only.refl _ _) | (with_reducible assumption) | (refine Only.of_none ?_; with_reducible assumption) | (with_reducible refine Only.drewN ?_ _) | (with_reducible refine Only.drew ?_) | (with_reducible refine Only.alloc ?_ _) | (with_reducible refine Only.setCell ?_ ?_ _) | (with_reducible refine Only.then0 ?_ (by with_reducible assumption)) | (with_reducible refine Only.thenN ?_ (by with_reducible assumption) ?_) | (with_reducible refine Only.trans ?_ (by with_reducible assumption)) | (refine .inl ?_; first | rfl | (simp; done) | (simp [Ar.blk]; done)) | (refine .inr ?_; first | omega | (simp; done) | (simp; omega) | exact Only.size (by with_reducible assumption) | (refine Nat.le_trans (Only.size (by with_reducible assumption)) ?_; simp; done))))) (by repeat' (first | (with_reducible exact Only.refl _ _) | (with_reducible assumption) | (refine Only.of_none ?_; with_reducible assumption) | (with_reducible refine Only.drewN ?_ _) | (with_reducible refine Only.drew ?_) | (with_reducible refine Only.alloc ?_ _) | (with_reducible refine Only.setCell ?_ ?_ _) | (with_reducible refine Only.then0 ?_ (by with_reducible assumption)) | (with_reducible refine Only.thenN ?_ (by with_reducible assumption) ?_) | (with_reducible refine Only.trans ?_ (by with_reducible assumption)) | (refine .inl ?_; first | rfl | (simp; done) | (simp [Ar.blk]; done)) | (refine .inr ?_; first | omega | (simp; done) | (simp; omega) | exact Only.size (by with_reducible assumption) | (refine Nat.le_trans (Only.size (by with_reducible assumption)) ?_; simp; done)))) _ _ _
  · have e1 : m.drop c = (1, m) := by unfold Mt.drop; rw [if_pos hm]
    rw [e1]
    exact q_drop_no b m c w hm h

set_option maxHeartbeats 400000 in
theorem q_tick (b : Nat) (m : Mt) (t : Int) (w : World) (h : MtAt w b m) :
    Calls Try.prog 33 #[.pointer (some ⟨b, 0, none⟩), .int .i64 t] w (MtStep b w (m.tick t)) := by
  have c15 := h.c15.cell
  have f15 := h.c15.free
  have hlt := h.c15.lt
  by_cases h1 : t < m.now ∨ t > 1000000000000000
  · have e1 : m.tick t = (223, m) := by unfold Mt.tick; rw [if_pos h1]
    have HS := fun w' => Lib.hid (MtStep.stay (x := 223) (w' := w') h)
    rw [e1]
    generalize MtStep b w (223, m) = R at *
    generalize m.now = n at *
    clear e1 h
    clear m
    by_cases h2 : t < n
    · clear h1
      go_enter Try.func33, Try.ntmps33
      go_wp2
      exact (HS _).out (by repeat' (first | (with_reducible exact Only.refl _ _) | (with_reducible assumption) | (refine Only.of_none ?_; with_reducible assumption) | (with_reducible refine Only.drewN ?_ _) | (with_reducible refine Only.drew ?_) | (with_reducible refine Only.alloc ?_ _) | (with_reducible refine Only.setCell ?_ ?_ _) | (with_reducible refine Only.then0 ?_ (by with_reducible assumption)) | (with_reducible refine Only.thenN ?_ (by with_reducible assumption) ?_) | (with_reducible refine Only.trans ?_ (by with_reducible assumption)) | (refine .inl ?_; first | rfl | (simp; done) | (simp [Ar.blk]; done)) | (refine .inr ?_; first | omega | (simp; done) | (simp; omega) | exact Only.size (by with_reducible assumption) | (refine Nat.le_trans (Only.size (by with_reducible assumption)) ?_; simp; done))))
    · have h3 : 1000000000000000 < t := by omega
      have h4 : decide (t < n) = false := by simpa using h2
      clear h1
      go_enter Try.func33, Try.ntmps33
      go_wp2
      exact (HS _).out (by repeat' (first | (with_reducible exact Only.refl _ _) | (with_reducible assumption) | (refine Only.of_none ?_; with_reducible assumption) | (with_reducible refine Only.drewN ?_ _) | (with_reducible refine Only.drew ?_) | (with_reducible refine Only.alloc ?_ _) | (with_reducible refine Only.setCell ?_ ?_ _) | (with_reducible refine Only.then0 ?_ (by with_reducible assumption)) | (with_reducible refine Only.thenN ?_ (by with_reducible assumption) ?_) | (with_reducible refine Only.trans ?_ (by with_reducible assumption)) | (refine .inl ?_; first | rfl | (simp; done) | (simp [Ar.blk]; done)) | (refine .inr ?_; first | omega | (simp; done) | (simp; omega) | exact Only.size (by with_reducible assumption) | (refine Nat.le_trans (Only.size (by with_reducible assumption)) ?_; simp; done))))
  · have e1 : m.tick t = (0, { m with now := t }) := by unfold Mt.tick; rw [if_neg h1]
    rw [e1]
    have h2 : m.now ≤ t := by omega
    have h3 : t ≤ 1000000000000000 := by omega
    have HF : ∀ w', MtAt w' b m → MtAt (w'.setCell ⟨b, 15, none⟩ (.int .i64 t)) b { m with now := t } := fun w' g =>
      ⟨g.c0.far (off_ne (by omega)) _, g.c11.far (off_ne (by omega)) _, g.c13.far (off_ne (by omega)) _, g.c14.far (off_ne (by omega)) _, g.c15.set _, fun i hi => (g.u0 i hi).far (off_ne (by omega)) _, fun i hi => (g.u1 i hi).far (off_ne (by omega)) _, fun i hi => (g.u2 i hi).far (off_ne (by omega)) _⟩
    have HG := Lib.hid (HF _ h)
    clear HF e1 h h1
    unfold MtStep
    simp only
    generalize { m with now := t } = m' at *
    generalize m.now = n at *
    clear m
    have h4 : decide (t < n) = false := by simp; omega
    go_enter Try.func33, Try.ntmps33
    go_wp2
    go_returns
    exact ⟨rfl, HG.out, by repeat' (first | (with_reducible exact Only.refl _ _) | (with_reducible assumption) | (refine Only.of_none ?_; with_reducible assumption) | (with_reducible refine Only.drewN ?_ _) | (with_reducible refine Only.drew ?_) | (with_reducible refine Only.alloc ?_ _) | (with_reducible refine Only.setCell ?_ ?_ _) | (with_reducible refine Only.then0 ?_ (by with_reducible assumption)) | (with_reducible refine Only.thenN ?_ (by with_reducible assumption) ?_) | (with_reducible refine Only.trans ?_ (by with_reducible assumption)) | (refine .inl ?_; first | rfl | (simp; done) | (simp [Ar.blk]; done)) | (refine .inr ?_; first | omega | (simp; done) | (simp; omega) | exact Only.size (by with_reducible assumption) | (refine Nat.le_trans (Only.size (by with_reducible assumption)) ?_; simp; done)))⟩
end Go.Proofs.Ytiiflgihjnlmcaa
