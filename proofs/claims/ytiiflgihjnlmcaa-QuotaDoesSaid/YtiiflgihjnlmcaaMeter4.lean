/- The document's meter: Drop. Conditions: the meter's numbers lie in their ranges. -/
import Derived.Test.YtiiflgihjnlmcaaMeter3
namespace Go.Proofs.Ytiiflgihjnlmcaa
set_option linter.unusedVariables false
set_option linter.unusedSimpArgs false
open Go.RowKit

set_option maxHeartbeats 1000000 in
theorem r_drop (base b gp gt k : Nat) (hv : Nat → Value) (T : Nat → List (Int × Int)) (m : Mt) (N : Nat) (c : Int) (w : World) (ok : MtOk m) (rok : RfOk m k T N) (h : RfAt base w b gp gt m k hv T) :
    Calls Try.prog 32 #[.pointer (some ⟨b, 0, none⟩), .int .i64 c] w (RfStep base b gp gt k N w (m.drop c)) := by
  have HI := Lib.hid (r_is base b gp gt k hv T m c w h)
  by_cases hm : m.is c
  · rw [decide_eq_true hm] at HI
    obtain ⟨i, rfl⟩ : ∃ i : Nat, c = i := ⟨c.toNat, by unfold Mt.is at hm; omega⟩
    have hi : i < k := by have := h.ek; have := hm.2; omega
    have i1 : (0 : Int) ≤ (i : Int) ∧ (i : Int) < (k : Int) := by omega
    have hat := fun w' (o : Only (fun _ => False) w w') => h.only o (fun _ _ => id)
    have HAT := Lib.hid hat
    have hst8 := ok.st8
    have hp0 := ok.p0 i
    have hp1 := ok.p1 i
    by_cases h2 : (m.us i).1 = 0
    · have e1 : m.drop i = (222, m) := by unfold Mt.drop; rw [if_neg (fun h => h hm)]; simp only [Int.toNat_natCast]; rw [if_pos h2]
      have HS := fun w' => Lib.hid (RfStep.stay (x := 222) (w' := w') h rok)
      have c6 := fun w' o => (hat w' o).c11.cell
      have c16 := fun w' o => (hat w' o).c16.cell
      have pl := fun w' o => ((hat w' o).pl i hi).cell
      rw [e1]
      generalize RfStep base b gp gt k N w (222, m) = R at *
      generalize (m.us i).1 = p at *
      generalize m.st = st at *
      have C6 := Lib.hid c6
      have C16 := Lib.hid c16
      have PL := Lib.hid pl
      subst h2
      clear e1 ok hm h rok hat c6 c16 pl
      go_enter Try.func32, Try.ntmps32
      go_wp2_with fail
      refine HI.out.mono ?_
      rintro e w1 ⟨rfl, ho⟩
      have c6 := C6.out w1 ho
      have c16 := C16.out w1 ho
      have pl := PL.out w1 ho
      have z1 := cell_lt c6
      have z2 := cell_lt pl
      go_wp2_with fail
      try (go_quiet (fail))
      go_wp2_with fail
      exact (HS _).out (by repeat' (first | (with_reducible exact Only.refl _ _) | (with_reducible assumption) | (refine Only.of_none ?_; with_reducible assumption) | (with_reducible refine Only.drewN ?_ _) | (with_reducible refine Only.drew ?_) | (with_reducible refine Only.alloc ?_ _) | (with_reducible refine Only.setCell ?_ ?_ _) | (with_reducible refine Only.then0 ?_ (by with_reducible assumption)) | (with_reducible refine Only.thenN ?_ (by with_reducible assumption) ?_) | (with_reducible refine Only.trans ?_ (by with_reducible assumption)) | (refine .inl ?_; first | rfl | (simp; done) | (simp [Ar.blk]; done)) | (refine .inr ?_; first | omega | (simp; done) | (simp; omega) | exact Only.size (by with_reducible assumption) | (refine Nat.le_trans (Only.size (by with_reducible assumption)) ?_; simp; done))))
    · have e1 : m.drop i = (0, m.put i ((m.us i).1 - 1, m.eff i, m.w)) := by unfold Mt.drop; rw [if_neg (fun h => h hm)]; simp only [Int.toNat_natCast]; rw [if_neg h2]
      have c6 := fun w' o => (hat w' o).c11.cell
      have c16 := fun w' o => (hat w' o).c16.cell
      have pl := fun w' o => ((hat w' o).pl i hi).cell
      have plf := fun w' o => ((hat w' o).pl i hi).free
      have HPUT := fun w' (o : Only (fun _ => False) w w') x => Lib.hid ((hat w' o).plans hi x (m.eff i) m.w)
      have HO := fun x => Lib.hid (rok.put i x)
      rw [e1]
      unfold RfStep
      simp only
      obtain ⟨p, hp⟩ : ∃ x, (m.us i).1 = x := ⟨_, rfl⟩
      rw [hp]
      rw [hp] at h2 hp0 hp1
      simp only [hp] at pl
      obtain ⟨st, hst⟩ : ∃ x, m.st = x := ⟨_, rfl⟩
      rw [hst] at hst8 hp1
      simp only [hst] at c6
      have h6 : 0 < p := by omega
      have C6 := Lib.hid c6
      have C16 := Lib.hid c16
      have PL := Lib.hid pl
      have PLF := Lib.hid plf
      have HST := Lib.hid hst
      have HP := Lib.hid hp
      have h5 : (p == 0) = false := by simp; omega
      have w1 : IntKind.i64.wrap (p - 1) = p - 1 := by rw [IntKind.wrap_i64]; omega
      clear e1 ok hm h rok hat c6 c16 pl plf h2 hp hst
      go_enter Try.func32, Try.ntmps32
      go_wp2_with fail
      refine HI.out.mono ?_
      rintro e w1 ⟨rfl, ho⟩
      have c6 := C6.out w1 ho
      have c16 := C16.out w1 ho
      have pl := PL.out w1 ho
      have plf := PLF.out w1 ho
      have z1 := cell_lt c6
      have z2 := cell_lt pl
      go_wp2_with fail
      try (go_quiet (fail))
      go_wp2_with fail
      go_returns
      exact ⟨hv, T, rfl, (HPUT _ (by repeat' (first | (with_reducible exact Only.refl _ _) | (with_reducible assumption) | (refine Only.of_none ?_; with_reducible assumption) | (with_reducible refine Only.drewN ?_ _) | (with_reducible refine Only.drew ?_) | (with_reducible refine Only.alloc ?_ _) | (with_reducible refine Only.setCell ?_ ?_ _) | (with_reducible refine Only.then0 ?_ (by with_reducible assumption)) | (with_reducible refine Only.thenN ?_ (by with_reducible assumption) ?_) | (with_reducible refine Only.trans ?_ (by with_reducible assumption)) | (refine .inl ?_; first | rfl | (simp; done) | (simp [Ar.blk]; done)) | (refine .inr ?_; first | omega | (simp; done) | (simp; omega) | exact Only.size (by with_reducible assumption) | (refine Nat.le_trans (Only.size (by with_reducible assumption)) ?_; simp; done)))) _).out, (HO _).out, ((Only.of_none (by repeat' (first | (with_reducible exact Only.refl _ _) | (with_reducible assumption) | (refine Only.of_none ?_; with_reducible assumption) | (with_reducible refine Only.drewN ?_ _) | (with_reducible refine Only.drew ?_) | (with_reducible refine Only.alloc ?_ _) | (with_reducible refine Only.setCell ?_ ?_ _) | (with_reducible refine Only.then0 ?_ (by with_reducible assumption)) | (with_reducible refine Only.thenN ?_ (by with_reducible assumption) ?_) | (with_reducible refine Only.trans ?_ (by with_reducible assumption)) | (refine .inl ?_; first | rfl | (simp; done) | (simp [Ar.blk]; done)) | (refine .inr ?_; first | omega | (simp; done) | (simp; omega) | exact Only.size (by with_reducible assumption) | (refine Nat.le_trans (Only.size (by with_reducible assumption)) ?_; simp; done)))))).setCell (.inl (.inr (.inl rfl))) _⟩
  · have e1 : m.drop c = (1, m) := by unfold Mt.drop; rw [if_pos hm]
    rw [decide_eq_false hm] at HI
    have HS := fun w' => Lib.hid (RfStep.stay (x := 1) (w' := w') h rok)
    rw [e1]
    generalize RfStep base b gp gt k N w (1, m) = R at *
    clear e1 ok hm h rok
    go_enter Try.func32, Try.ntmps32
    go_wp2_with fail
    refine HI.out.mono ?_
    rintro e w1 ⟨rfl, ho⟩
    try (go_wp2_with fail)
    exact (HS _).out (by repeat' (first | (with_reducible exact Only.refl _ _) | (with_reducible assumption) | (refine Only.of_none ?_; with_reducible assumption) | (with_reducible refine Only.drewN ?_ _) | (with_reducible refine Only.drew ?_) | (with_reducible refine Only.alloc ?_ _) | (with_reducible refine Only.setCell ?_ ?_ _) | (with_reducible refine Only.then0 ?_ (by with_reducible assumption)) | (with_reducible refine Only.thenN ?_ (by with_reducible assumption) ?_) | (with_reducible refine Only.trans ?_ (by with_reducible assumption)) | (refine .inl ?_; first | rfl | (simp; done) | (simp [Ar.blk]; done)) | (refine .inr ?_; first | omega | (simp; done) | (simp; omega) | exact Only.size (by with_reducible assumption) | (refine Nat.le_trans (Only.size (by with_reducible assumption)) ?_; simp; done))))
end Go.Proofs.Ytiiflgihjnlmcaa
