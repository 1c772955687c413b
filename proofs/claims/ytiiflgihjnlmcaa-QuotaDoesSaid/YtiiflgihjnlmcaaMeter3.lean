/- The document's meter: Tick, Plan, Drop. Conditions: the meter's numbers lie in their ranges. -/
import Derived.Test.YtiiflgihjnlmcaaMeter2
namespace Go.Proofs.Ytiiflgihjnlmcaa
set_option linter.unusedVariables false
set_option linter.unusedSimpArgs false
open Go.RowKit

/-- The document's meter is as the pure step says; nothing else that lay there has turned. -/
def RfStep (base b gp gt k N : Nat) (w : World) (r : Int × Mt) (e : Ending) (w' : World) : Prop :=
  ∃ hv T, e = .returned (.int .i64 r.1) ∧ RfAt base w' b gp gt r.2 k hv T ∧ RfOk r.2 k T (N + 1) ∧ Only (RfB base b gp gt) w w'

theorem RfOk.more {m : Mt} {k : Nat} {T : Nat → List (Int × Int)} {N : Nat} (h : RfOk m k T N) : RfOk m k T (N + 1) := ⟨h.at0, h.sum, fun i hi => by have := h.len i hi; omega⟩

theorem RfStep.stay {base b gp gt k N : Nat} {w w' : World} {m : Mt} {hv : Nat → Value} {T : Nat → List (Int × Int)} {x : Int} (h : RfAt base w b gp gt m k hv T) (rok : RfOk m k T N) (o : Only (fun _ => False) w w') : RfStep base b gp gt k N w (x, m) (.returned (.int .i64 x)) w' :=
  ⟨hv, T, rfl, h.only o (fun _ _ => id), rok.more, Only.of_none o⟩

theorem Mt.eff_put {m : Mt} {c : Nat} {x : Int} (i : Nat) : (m.put c (x, m.eff c, m.w)).eff i = m.eff i := by
  have hw : (m.put c (x, m.eff c, m.w)).w = m.w := rfl
  show (if ((m.put c (x, m.eff c, m.w)).us i).2.2 = m.w then ((m.put c (x, m.eff c, m.w)).us i).2.1 else 0) = m.eff i
  simp only [Mt.put]
  by_cases e : i = c
  · subst e; simp only [if_pos]
  · simp only [if_neg e]; rfl

theorem sumIn_zero {win ww : Int} {l : List (Int × Int)} (h : ∀ x ∈ l, ¬ x.1 / win = ww) : sumIn win ww l = 0 := by
  induction l with
  | nil => rfl
  | cons x t ih =>
    simp only [sumIn]
    rw [if_neg (h x (by simp)), ih fun y hy => h y (by simp [hy])]
    rfl

theorem RfOk.tick {m : Mt} {k : Nat} {T : Nat → List (Int × Int)} {N : Nat} (ok : MtOk m) (h : RfOk m k T N) {t : Int} (ht : m.now ≤ t) : RfOk { m with now := t } k T (N + 1) := by
  refine ⟨fun i hi x hx => ?_, fun i hi => ?_, fun i hi => by have := h.len i hi; omega⟩
  · have := h.at0 i hi x hx
    exact ⟨this.1, by show x.1 ≤ t; omega, this.2.2⟩
  · have hs := h.sum i hi
    have hle := ok.wle i
    have hmono : m.now / m.win ≤ t / m.win := Int.ediv_le_ediv (by have := ok.win1; omega) ht
    show sumIn m.win (t / m.win) (T i) = if (m.us i).2.2 = t / m.win then (m.us i).2.1 else 0
    unfold Mt.eff Mt.w at hs
    by_cases e : t / m.win = m.now / m.win
    · rw [e]; exact hs
    · rw [if_neg (by omega)]
      refine sumIn_zero fun x hx => ?_
      have h1 := (h.at0 i hi x hx).2.1
      have := Int.ediv_le_ediv (show 0 < m.win by have := ok.win1; omega) h1
      omega

set_option maxHeartbeats 400000 in
theorem r_tick (base b gp gt k : Nat) (hv : Nat → Value) (T : Nat → List (Int × Int)) (m : Mt) (N : Nat) (t : Int) (w : World) (ok : MtOk m) (rok : RfOk m k T N) (h : RfAt base w b gp gt m k hv T) :
    Calls Try.prog 34 #[.pointer (some ⟨b, 0, none⟩), .int .i64 t] w (RfStep base b gp gt k N w (m.tick t)) := by
  have c15 := h.c15.cell
  have f15 := h.c15.free
  have hlt := h.c15.lt
  by_cases h1 : t < m.now ∨ t > 1000000000000000
  · have e1 : m.tick t = (223, m) := by unfold Mt.tick; rw [if_pos h1]
    have HS := fun w' => Lib.hid (RfStep.stay (x := 223) (w' := w') h rok)
    rw [e1]
    generalize RfStep base b gp gt k N w (223, m) = R at *
    generalize m.now = n at *
    clear e1 h ok rok
    clear m
    by_cases h2 : t < n
    · have h4 : decide (t < n) = true := by simpa using h2
      clear h1
      go_enter Try.func34, Try.ntmps34
      go_wp2
      exact (HS _).out (by repeat' (first | (with_reducible exact Only.refl _ _) | (with_reducible assumption) | (refine Only.of_none ?_; with_reducible assumption) | (with_reducible refine Only.drewN ?_ _) | (with_reducible refine Only.drew ?_) | (with_reducible refine Only.alloc ?_ _) | (with_reducible refine Only.setCell ?_ ?_ _) | (with_reducible refine Only.then0 ?_ (by with_reducible assumption)) | (with_reducible refine Only.thenN ?_ (by with_reducible assumption) ?_) | (with_reducible refine Only.trans ?_ (by with_reducible assumption)) | (refine .inl ?_; first | rfl | (simp; done) | (simp [Ar.blk]; done)) | (refine .inr ?_; first | omega | (simp; done) | (simp; omega) | exact Only.size (by with_reducible assumption) | (refine Nat.le_trans (Only.size (by with_reducible assumption)) ?_; simp; done))))
    · have h3 : 1000000000000000 < t := by omega
      have h4 : decide (t < n) = false := by simpa using h2
      clear h1
      go_enter Try.func34, Try.ntmps34
      go_wp2
      exact (HS _).out (by repeat' (first | (with_reducible exact Only.refl _ _) | (with_reducible assumption) | (refine Only.of_none ?_; with_reducible assumption) | (with_reducible refine Only.drewN ?_ _) | (with_reducible refine Only.drew ?_) | (with_reducible refine Only.alloc ?_ _) | (with_reducible refine Only.setCell ?_ ?_ _) | (with_reducible refine Only.then0 ?_ (by with_reducible assumption)) | (with_reducible refine Only.thenN ?_ (by with_reducible assumption) ?_) | (with_reducible refine Only.trans ?_ (by with_reducible assumption)) | (refine .inl ?_; first | rfl | (simp; done) | (simp [Ar.blk]; done)) | (refine .inr ?_; first | omega | (simp; done) | (simp; omega) | exact Only.size (by with_reducible assumption) | (refine Nat.le_trans (Only.size (by with_reducible assumption)) ?_; simp; done))))
  · have e1 : m.tick t = (0, { m with now := t }) := by unfold Mt.tick; rw [if_neg h1]
    rw [e1]
    have h2 : m.now ≤ t := by omega
    have h3 : t ≤ 1000000000000000 := by omega
    have HF : RfAt base (w.setCell ⟨b, 15, none⟩ (.int .i64 t)) b gp gt { m with now := t } k hv T := by
      have ho := (Only.refl (· = b) w).setCell (p := ⟨b, 15, none⟩) (.inl rfl) (.int .i64 t)
      have hne := h.ne
      have hlo := h.lows
      exact ⟨h.c0.far (off_ne (by omega)) _, h.c11.far (off_ne (by omega)) _, h.c13.far (off_ne (by omega)) _, h.c14.far (off_ne (by omega)) _, h.c15.set _, h.c16.far (off_ne (by omega)) _, h.c17.far (off_ne (by omega)) _, h.ek,
        fun i hi => (h.pl i hi).far (blk_ne hne.1) _, fun i hi => (h.hd i hi).far (blk_ne hne.2.1) _, fun i hi => ownsRow_only (h.own i hi) ho (fun j hj e => by omega), h.dis, h.lows, h.ne, Nat.le_trans h.low ho.size⟩
    have HG := Lib.hid HF
    have HO := Lib.hid (rok.tick ok h2)
    clear HF e1 h h1 ok rok
    unfold RfStep
    simp only
    generalize { m with now := t } = m' at *
    generalize m.now = n at *
    clear m
    have h4 : decide (t < n) = false := by simp; omega
    go_enter Try.func34, Try.ntmps34
    go_wp2
    go_returns
    exact ⟨hv, T, rfl, HG.out, HO.out, (Only.refl _ w).setCell (.inl (.inl rfl)) _⟩

/-- A client's plans are written anew. -/
theorem RfAt.plans {base : Nat} {w : World} {b gp gt : Nat} {m : Mt} {k : Nat} {hv : Nat → Value} {T : Nat → List (Int × Int)} (h : RfAt base w b gp gt m k hv T) {c : Nat} (hc : c < k) (x y z : Int) :
    RfAt base (w.setCell ⟨gp, c, none⟩ (.int .i64 x)) b gp gt (m.put c (x, y, z)) k hv T := by
  have ho := (Only.refl (· = gp) w).setCell (p := ⟨gp, c, none⟩) (.inl rfl) (.int .i64 x)
  have hne := h.ne
  have hlo := h.lows
  refine ⟨h.c0.only ho hne.1, h.c11.only ho hne.1, h.c13.only ho hne.1, h.c14.only ho hne.1, h.c15.only ho hne.1, h.c16.only ho hne.1, h.c17.only ho hne.1, h.ek,
    fun i hi => ?_, fun i hi => (h.hd i hi).only ho (fun e => hne.2.2 e.symm), fun i hi => ownsRow_only (h.own i hi) ho (fun j hj e => by omega), h.dis, h.lows, h.ne, Nat.le_trans h.low ho.size⟩
  by_cases e : i = c
  · subst e; simp only [Mt.put, if_pos]; exact (h.pl i hi).set _
  · simp only [Mt.put, if_neg e]; exact (h.pl i hi).far (off_ne (fun e' => e e'.symm)) _

theorem RfOk.put {m : Mt} {k : Nat} {T : Nat → List (Int × Int)} {N : Nat} (h : RfOk m k T N) (c : Nat) (x : Int) : RfOk (m.put c (x, m.eff c, m.w)) k T (N + 1) :=
  ⟨h.at0, fun i hi => by rw [Mt.eff_put]; exact h.sum i hi, fun i hi => by have := h.len i hi; omega⟩

set_option maxHeartbeats 1000000 in
theorem r_plan (base b gp gt k : Nat) (hv : Nat → Value) (T : Nat → List (Int × Int)) (m : Mt) (N : Nat) (c : Int) (w : World) (ok : MtOk m) (rok : RfOk m k T N) (h : RfAt base w b gp gt m k hv T) :
    Calls Try.prog 30 #[.pointer (some ⟨b, 0, none⟩), .int .i64 c] w (RfStep base b gp gt k N w (m.plan c)) := by
  have HI := Lib.hid (r_is base b gp gt k hv T m c w h)
  by_cases hm : m.is c
  · rw [decide_eq_true hm] at HI
    obtain ⟨i, rfl⟩ : ∃ i : Nat, c = i := ⟨c.toNat, by unfold Mt.is at hm; omega⟩
    have hi : i < k := by have := h.ek; have := hm.2; omega
    have i1 : (0 : Int) ≤ (i : Int) ∧ (i : Int) < (k : Int) := by omega
    have hat := fun w' (o : Only (fun _ => False) w w') => h.only o (fun _ _ => id)
    have HAT := Lib.hid hat
    have hst8 := ok.st8
    have hp0 := ok.p0 i
    by_cases h2 : (m.us i).1 ≥ m.st
    · have e1 : m.plan i = (222, m) := by unfold Mt.plan; rw [if_neg (fun h => h hm)]; simp only [Int.toNat_natCast]; rw [if_pos h2]
      have HS := fun w' => Lib.hid (RfStep.stay (x := 222) (w' := w') h rok)
      have c6 := fun w' o => (hat w' o).c11.cell
      have c16 := fun w' o => (hat w' o).c16.cell
      have pl := fun w' o => ((hat w' o).pl i hi).cell
      rw [e1]
      generalize RfStep base b gp gt k N w (222, m) = R at *
      generalize (m.us i).1 = p at *
      generalize m.st = st at *
      have C6 := Lib.hid c6
      have C16 := Lib.hid c16
      have PL := Lib.hid pl
      have h5 : decide (st ≤ p) = true := by simp; omega
      clear e1 ok hm h rok hat c6 c16 pl
      go_enter Try.func30, Try.ntmps30
      go_wp2_with fail
      refine HI.out.mono ?_
      rintro e w1 ⟨rfl, ho⟩
      have c6 := C6.out w1 ho
      have c16 := C16.out w1 ho
      have pl := PL.out w1 ho
      have z1 := cell_lt c6
      have z2 := cell_lt pl
      go_wp2_with fail
      go_quiet (fail)
      go_wp2_with fail
      exact (HS _).out (by repeat' (first | (with_reducible exact Only.refl _ _) | (with_reducible assumption) | (refine Only.of_none ?_; with_reducible assumption) | (with_reducible refine Only.drewN ?_ _) | (with_reducible refine Only.drew ?_) | (with_reducible refine Only.alloc ?_ _) | (with_reducible refine Only.setCell ?_ ?_ _) | (with_reducible refine Only.then0 ?_ (by with_reducible assumption)) | (with_reducible refine Only.thenN ?_ (by with_reducible assumption) ?_) | (with_reducible refine Only.trans ?_ (by with_reducible assumption)) | (refine .inl ?_; first | rfl | (simp; done) | (simp [Ar.blk]; done)) | (refine .inr ?_; first | omega | (simp; done) | (simp; omega) | exact Only.size (by with_reducible assumption) | (refine Nat.le_trans (Only.size (by with_reducible assumption)) ?_; simp; done))))
    · have e1 : m.plan i = (0, m.put i ((m.us i).1 + 1, m.eff i, m.w)) := by unfold Mt.plan; rw [if_neg (fun h => h hm)]; simp only [Int.toNat_natCast]; rw [if_neg h2]
      have c6 := fun w' o => (hat w' o).c11.cell
      have c16 := fun w' o => (hat w' o).c16.cell
      have pl := fun w' o => ((hat w' o).pl i hi).cell
      have plf := fun w' o => ((hat w' o).pl i hi).free
      have HPUT := fun w' (o : Only (fun _ => False) w w') x => Lib.hid ((hat w' o).plans hi x (m.eff i) m.w)
      have HO := fun x => Lib.hid (rok.put i x)
      rw [e1]
      unfold RfStep
      simp only
      obtain ⟨p, hp⟩ : ∃ x, (m.us i).1 = x := ⟨_, rfl⟩
      rw [hp]
      rw [hp] at h2 hp0
      simp only [hp] at pl
      obtain ⟨st, hst⟩ : ∃ x, m.st = x := ⟨_, rfl⟩
      rw [hst] at hst8 h2
      simp only [hst] at c6
      have h6 : p < st := by omega
      have C6 := Lib.hid c6
      have C16 := Lib.hid c16
      have PL := Lib.hid pl
      have PLF := Lib.hid plf
      have HST := Lib.hid hst
      have HP := Lib.hid hp
      have h5 : decide (st ≤ p) = false := by simp; omega
      have w1 : IntKind.i64.wrap (p + 1) = p + 1 := by rw [IntKind.wrap_i64]; omega
      clear e1 ok hm h rok hat c6 c16 pl plf h2 hp hst
      go_enter Try.func30, Try.ntmps30
      go_wp2_with fail
      refine HI.out.mono ?_
      rintro e w1 ⟨rfl, ho⟩
      have c6 := C6.out w1 ho
      have c16 := C16.out w1 ho
      have pl := PL.out w1 ho
      have plf := PLF.out w1 ho
      have z1 := cell_lt c6
      have z2 := cell_lt pl
      go_wp2_with fail
      go_quiet (fail)
      go_wp2_with fail
      go_returns
      exact ⟨hv, T, rfl, (HPUT _ (by repeat' (first | (with_reducible exact Only.refl _ _) | (with_reducible assumption) | (refine Only.of_none ?_; with_reducible assumption) | (with_reducible refine Only.drewN ?_ _) | (with_reducible refine Only.drew ?_) | (with_reducible refine Only.alloc ?_ _) | (with_reducible refine Only.setCell ?_ ?_ _) | (with_reducible refine Only.then0 ?_ (by with_reducible assumption)) | (with_reducible refine Only.thenN ?_ (by with_reducible assumption) ?_) | (with_reducible refine Only.trans ?_ (by with_reducible assumption)) | (refine .inl ?_; first | rfl | (simp; done) | (simp [Ar.blk]; done)) | (refine .inr ?_; first | omega | (simp; done) | (simp; omega) | exact Only.size (by with_reducible assumption) | (refine Nat.le_trans (Only.size (by with_reducible assumption)) ?_; simp; done)))) _).out, (HO _).out, ((Only.of_none (by repeat' (first | (with_reducible exact Only.refl _ _) | (with_reducible assumption) | (refine Only.of_none ?_; with_reducible assumption) | (with_reducible refine Only.drewN ?_ _) | (with_reducible refine Only.drew ?_) | (with_reducible refine Only.alloc ?_ _) | (with_reducible refine Only.setCell ?_ ?_ _) | (with_reducible refine Only.then0 ?_ (by with_reducible assumption)) | (with_reducible refine Only.thenN ?_ (by with_reducible assumption) ?_) | (with_reducible refine Only.trans ?_ (by with_reducible assumption)) | (refine .inl ?_; first | rfl | (simp; done) | (simp [Ar.blk]; done)) | (refine .inr ?_; first | omega | (simp; done) | (simp; omega) | exact Only.size (by with_reducible assumption) | (refine Nat.le_trans (Only.size (by with_reducible assumption)) ?_; simp; done)))))).setCell (.inl (.inr (.inl rfl))) _⟩
  · have e1 : m.plan c = (1, m) := by unfold Mt.plan; rw [if_pos hm]
    rw [decide_eq_false hm] at HI
    have HS := fun w' => Lib.hid (RfStep.stay (x := 1) (w' := w') h rok)
    rw [e1]
    generalize RfStep base b gp gt k N w (1, m) = R at *
    clear e1 ok hm h rok
    go_enter Try.func30, Try.ntmps30
    go_wp2_with fail
    refine HI.out.mono ?_
    rintro e w1 ⟨rfl, ho⟩
    go_wp2_with fail
    exact (HS _).out (by repeat' (first | (with_reducible exact Only.refl _ _) | (with_reducible assumption) | (refine Only.of_none ?_; with_reducible assumption) | (with_reducible refine Only.drewN ?_ _) | (with_reducible refine Only.drew ?_) | (with_reducible refine Only.alloc ?_ _) | (with_reducible refine Only.setCell ?_ ?_ _) | (with_reducible refine Only.then0 ?_ (by with_reducible assumption)) | (with_reducible refine Only.thenN ?_ (by with_reducible assumption) ?_) | (with_reducible refine Only.trans ?_ (by with_reducible assumption)) | (refine .inl ?_; first | rfl | (simp; done) | (simp [Ar.blk]; done)) | (refine .inr ?_; first | omega | (simp; done) | (simp; omega) | exact Only.size (by with_reducible assumption) | (refine Nat.le_trans (Only.size (by with_reducible assumption)) ?_; simp; done))))
end Go.Proofs.Ytiiflgihjnlmcaa
