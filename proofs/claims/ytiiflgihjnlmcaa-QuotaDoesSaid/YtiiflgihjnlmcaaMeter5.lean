/- The document's meter: Acts. Conditions: the meter's numbers lie in their ranges. -/
import Derived.Test.YtiiflgihjnlmcaaMeter4
import Derived.Maps.AppendAt
import Derived.Deep.AppendLies
import Derived.Deep.RegionLaw
namespace Go.Proofs.Ytiiflgihjnlmcaa
set_option linter.unusedVariables false
set_option linter.unusedSimpArgs false
open Go.RowKit

def set1 {α : Type} (f : Nat → α) (c : Nat) (v : α) : Nat → α := fun i => if i = c then v else f i
theorem set1_same {α : Type} (f : Nat → α) (c : Nat) (v : α) : set1 f c v c = v := if_pos rfl
theorem set1_other {α : Type} (f : Nat → α) {c i : Nat} (v : α) (h : i ≠ c) : set1 f c v i = f i := if_neg h

theorem Only.of_grown {w w' : World} {row : Option Nat} {S : Nat → Prop} (hg : w.grownBy w' row) (hr : ∀ r, row = some r → S r) : Only S w w' :=
  ⟨hg.os, hg.tape, hg.output, hg.size, fun i hi hs => hg.block i hi (fun e => hs (hr i e.symm))⟩

/-- One list is longer by one. -/
theorem RfAt.append {base : Nat} {w w' : World} {b gp gt : Nat} {m : Mt} {k : Nat} {hv : Nat → Value} {T : Nat → List (Int × Int)} (h : RfAt base w b gp gt m k hv T) {c : Nat} (hc : c < k) {v : Value} {x : Int × Int} (y z : Int)
    (hown : w'.ownsRow base 145 2 v ((T c).length + 1) (takeV (T c) ++ [.int .i64 x.1, .int .i64 x.2])) (hg : w.grownBy w' (hv c).ownBlock) (hloc : v.ownBlock = (hv c).ownBlock ∨ v.ownBlock = some w.heap.size) :
    RfAt base (w'.setCell ⟨gt, c, none⟩ v) b gp gt (m.put c ((m.us c).1, y, z)) k (set1 hv c v) (set1 T c (T c ++ [x])) ∧ Only (RfB base b gp gt) w (w'.setCell ⟨gt, c, none⟩ v) := by
  have hlo := h.lows
  have hne := h.ne
  have hrow : ∀ r, (hv c).ownBlock = some r → base ≤ r := fun r e => ((h.own c hc).lt r e).1
  have o1 : Only (fun i => base ≤ i) w w' := Only.of_grown hg hrow
  have o2 : Only (fun i => i = gt ∨ base ≤ i) w (w'.setCell ⟨gt, c, none⟩ v) := (o1.mono fun i _ hi => .inr hi).setCell (p := ⟨gt, c, none⟩) (.inl (.inl rfl)) v
  have o3 := (Only.refl (· = gt) w').setCell (p := ⟨gt, c, none⟩) (.inl rfl) v
  have hb : ¬ (b = gt ∨ base ≤ b) := by omega
  refine ⟨⟨h.c0.only o2 hb, h.c11.only o2 hb, h.c13.only o2 hb, h.c14.only o2 hb, h.c15.only o2 hb, h.c16.only o2 hb, h.c17.only o2 hb, h.ek, fun i hi => ?_, fun i hi => ?_, fun i hi => ?_, fun i j hi hj hij => ?_, h.lows, h.ne, Nat.le_trans h.low o2.size⟩, o2.mono fun i _ hi => hi.elim (fun e => .inr (.inr (.inl e))) (fun e => .inr (.inr (.inr e)))⟩
  · have hp := (h.pl i hi).only o2 (by omega)
    by_cases e : i = c
    · subst e; simp only [Mt.put, if_pos]; exact hp
    · simp only [Mt.put, if_neg e]; exact hp
  · by_cases e : i = c
    · subst e
      rw [set1_same]
      exact ((h.hd i hi).only o1 (by omega)).set v
    · rw [set1_other _ _ e]
      exact ((h.hd i hi).only o1 (by omega)).far (off_ne (fun e' => e e'.symm)) _
  · by_cases e : i = c
    · subst e
      rw [set1_same, set1_same, List.length_append, takeV_append]
      exact ownsRow_only hown o3 (fun j hj e => by omega)
    · rw [set1_other _ _ e, set1_other _ _ e]
      exact ownsRow_only ((h.own i hi).kept hg (h.dis i c hi hc e)) o3 (fun j hj e => by omega)
  · have hlt := fun i hi r e => ((h.own i hi).lt r e).2
    by_cases e1 : i = c
    · subst e1
      rw [set1_same, set1_other _ _ (fun e => hij e.symm)]
      rcases hloc with e | e
      · rw [e]; exact h.dis i j hi hj hij
      · right; rw [e]; intro e'
        have := hlt j hj _ e'.symm
        omega
    · rw [set1_other _ _ e1]
      by_cases e2 : j = c
      · subst e2
        rw [set1_same]
        rcases hloc with e | e
        · rw [e]; exact h.dis i j hi hj hij
        · right; rw [e]; intro e'
          have := hlt i hi _ e'
          omega
      · rw [set1_other _ _ e2]; exact h.dis i j hi hj hij

theorem RfOk.append {m : Mt} (ok : MtOk m) {k : Nat} {T : Nat → List (Int × Int)} {N : Nat} (h : RfOk m k T N) {c : Nat} (n : Int) (hn : 0 ≤ n) : RfOk (m.put c ((m.us c).1, m.eff c + n, m.w)) k (set1 T c (T c ++ [(m.now, n)])) (N + 1) := by
  refine ⟨fun i hi x hx => ?_, fun i hi => ?_, fun i hi => ?_⟩
  · by_cases e : i = c
    · subst e
      rw [set1_same] at hx
      rcases List.mem_append.1 hx with hx | hx
      · exact h.at0 i hi x hx
      · simp at hx; subst hx; exact ⟨ok.now0, Int.le_refl _, hn⟩
    · rw [set1_other _ _ e] at hx; exact h.at0 i hi x hx
  · show sumIn m.win m.w _ = if ((m.put c ((m.us c).1, m.eff c + n, m.w)).us i).2.2 = m.w then ((m.put c ((m.us c).1, m.eff c + n, m.w)).us i).2.1 else 0
    simp only [Mt.put]
    by_cases e : i = c
    · subst e
      rw [set1_same, sumIn_append, h.sum i hi]
      simp only [if_pos, sumIn]
      rw [if_pos (show m.now / m.win = m.w from rfl)]; omega
    · rw [set1_other _ _ e]; simp only [if_neg e]; exact h.sum i hi
  · by_cases e : i = c
    · subst e; rw [set1_same, List.length_append]; have := h.len i hi; simp; exact this
    · rw [set1_other _ _ e]; have := h.len i hi; omega

theorem Try.infoTake : (Try.prog.info? 145).map (fun i => (i.zero, i.size, i.bytes)) = some (some (.agg #[.int .i64 0, .int .i64 0]), 2, 16) := by kernel_rfl

theorem cell_pair_new (w : World) (x y : Value) (t : TypeId) : ∀ j u, [x, y][j]? = some u → (w.alloc (.cells #[x, y] t)).cell? ((⟨w.heap.size, 0, none⟩ : Addr).add j) = some u := by
  intro j u h
  rw [show (⟨w.heap.size, 0, none⟩ : Addr).add j = ⟨w.heap.size, j, none⟩ by unfold Addr.add; split <;> simp_all]
  exact (Cell.new (cs := #[x, y]) (by simpa using h)).cell

set_option maxHeartbeats 4000000 in
set_option maxRecDepth 100000 in
theorem r_acts (base b gp gt k : Nat) (hv : Nat → Value) (T : Nat → List (Int × Int)) (m : Mt) (N : Nat) (c n : Int) (w : World) (ok : MtOk m) (rok : RfOk m k T N) (hN : N ≤ 4398046511104) (hn : -9223372036854775808 ≤ n) (hn' : n ≤ 9223372036854775807) (h : RfAt base w b gp gt m k hv T) :
    Calls Try.prog 28 #[.pointer (some ⟨b, 0, none⟩), .int .i64 c, .int .i64 n] w (RfStep base b gp gt k N w (m.acts c n)) := by
  have HI := Lib.hid (r_is base b gp gt k hv T m c w h)
  have hlt := h.c0.lt
  by_cases hm : m.is c
  · rw [decide_eq_true hm] at HI
    by_cases hn0 : n < 0
    · have e1 : m.acts c n = (1, m) := by unfold Mt.acts; rw [if_pos (.inr hn0)]
      have HS := fun w' => Lib.hid (RfStep.stay (x := 1) (w' := w') h rok)
      have t1 : decide (n < 0) = true := by simpa using hn0
      rw [e1]
      generalize RfStep base b gp gt k N w (1, m) = R at *
      clear e1 ok hm h rok
      go_enter Try.func28, Try.ntmps28
      go_wp2_with fail
      refine HI.out.mono ?_
      rintro e w1 ⟨rfl, ho⟩
      go_wp2_with fail
      exact (HS _).out (by repeat' (first | (with_reducible exact Only.refl _ _) | (with_reducible assumption) | (refine Only.of_none ?_; with_reducible assumption) | (with_reducible refine Only.drewN ?_ _) | (with_reducible refine Only.drew ?_) | (with_reducible refine Only.alloc ?_ _) | (with_reducible refine Only.setCell ?_ ?_ _) | (with_reducible refine Only.then0 ?_ (by with_reducible assumption)) | (with_reducible refine Only.thenN ?_ (by with_reducible assumption) ?_) | (with_reducible refine Only.trans ?_ (by with_reducible assumption)) | (refine .inl ?_; first | rfl | (simp; done) | (simp [Ar.blk]; done)) | (refine .inr ?_; first | omega | (simp; done) | (simp; omega) | exact Only.size (by with_reducible assumption) | (refine Nat.le_trans (Only.size (by with_reducible assumption)) ?_; simp; done))))
    · have t1 : decide (n < 0) = false := by simpa using hn0
      obtain ⟨i, rfl⟩ : ∃ i : Nat, c = i := ⟨c.toNat, by unfold Mt.is at hm; omega⟩
      have hi : i < k := by have := h.ek; have := hm.2; omega
      have hat := fun w' (o : Only (fun _ => False) w w') => h.only o (fun _ _ => id)
      have HU := fun w' (o : Only (fun _ => False) w w') => Lib.hid (r_used base b gp gt k hv T m N i w' ok rok hN (hat w' o))
      have eu : m.used i = ((m.us i).1, m.eff i) := by unfold Mt.used; rw [if_pos hm, Int.toNat_natCast]
      simp only [eu] at HU
      have hac := ok.ac6
      have hef := ok.eff i
      have c13 := fun w' o => (hat w' o).c13.cell
      by_cases h2 : n > m.ac - m.eff i
      · have e1 : m.acts i n = (220, m) := by unfold Mt.acts; rw [if_neg (fun h => h.elim (fun h => h hm) hn0)]; simp only [Int.toNat_natCast]; rw [if_pos h2]
        have HS := fun w' => Lib.hid (RfStep.stay (x := 220) (w' := w') h rok)
        rw [e1]
        generalize RfStep base b gp gt k N w (220, m) = R at *
        generalize m.eff i = ef at *
        generalize (m.us i).1 = p at *
        generalize m.ac = ac at *
        have C13 := Lib.hid c13
        have t2 : decide (ac - ef < n) = true := by simp; omega
        have w1 : IntKind.i64.wrap (ac - ef) = ac - ef := by rw [IntKind.wrap_i64]; omega
        clear e1 ok hm h rok hat eu c13
        go_enter Try.func28, Try.ntmps28
        go_wp2_with fail
        refine HI.out.mono ?_
        rintro e w1 ⟨rfl, ho⟩
        go_wp2_with fail
        refine (HU _ (by repeat' (first | (with_reducible exact Only.refl _ _) | (with_reducible assumption) | (refine Only.of_none ?_; with_reducible assumption) | (with_reducible refine Only.drewN ?_ _) | (with_reducible refine Only.drew ?_) | (with_reducible refine Only.alloc ?_ _) | (with_reducible refine Only.setCell ?_ ?_ _) | (with_reducible refine Only.then0 ?_ (by with_reducible assumption)) | (with_reducible refine Only.thenN ?_ (by with_reducible assumption) ?_) | (with_reducible refine Only.trans ?_ (by with_reducible assumption)) | (refine .inl ?_; first | rfl | (simp; done) | (simp [Ar.blk]; done)) | (refine .inr ?_; first | omega | (simp; done) | (simp; omega) | exact Only.size (by with_reducible assumption) | (refine Nat.le_trans (Only.size (by with_reducible assumption)) ?_; simp; done))))).out.mono ?_
        rintro e w2 ⟨rfl, ho2⟩
        have c13 := C13.out w2 (by repeat' (first | (with_reducible exact Only.refl _ _) | (with_reducible assumption) | (refine Only.of_none ?_; with_reducible assumption) | (with_reducible refine Only.drewN ?_ _) | (with_reducible refine Only.drew ?_) | (with_reducible refine Only.alloc ?_ _) | (with_reducible refine Only.setCell ?_ ?_ _) | (with_reducible refine Only.then0 ?_ (by with_reducible assumption)) | (with_reducible refine Only.thenN ?_ (by with_reducible assumption) ?_) | (with_reducible refine Only.trans ?_ (by with_reducible assumption)) | (refine .inl ?_; first | rfl | (simp; done) | (simp [Ar.blk]; done)) | (refine .inr ?_; first | omega | (simp; done) | (simp; omega) | exact Only.size (by with_reducible assumption) | (refine Nat.le_trans (Only.size (by with_reducible assumption)) ?_; simp; done))))
        go_wp2_with fail
        exact (HS _).out (by repeat' (first | (with_reducible exact Only.refl _ _) | (with_reducible assumption) | (refine Only.of_none ?_; with_reducible assumption) | (with_reducible refine Only.drewN ?_ _) | (with_reducible refine Only.drew ?_) | (with_reducible refine Only.alloc ?_ _) | (with_reducible refine Only.setCell ?_ ?_ _) | (with_reducible refine Only.then0 ?_ (by with_reducible assumption)) | (with_reducible refine Only.thenN ?_ (by with_reducible assumption) ?_) | (with_reducible refine Only.trans ?_ (by with_reducible assumption)) | (refine .inl ?_; first | rfl | (simp; done) | (simp [Ar.blk]; done)) | (refine .inr ?_; first | omega | (simp; done) | (simp; omega) | exact Only.size (by with_reducible assumption) | (refine Nat.le_trans (Only.size (by with_reducible assumption)) ?_; simp; done))))
      · have e1 : m.acts i n = (0, m.put i ((m.us i).1, m.eff i + n, m.w)) := by unfold Mt.acts; rw [if_neg (fun h => h.elim (fun h => h hm) hn0)]; simp only [Int.toNat_natCast]; rw [if_neg h2]
        rw [e1]
        obtain ⟨i3, hi3, hz3, hs3, hb3⟩ := info_parts Try.infoTake
        have hOK := Lib.hid (RfOk.append ok rok (c := i) n (by omega))
        have hAT := Lib.hid hat
        have hln := rok.len i hi
        have hlow := h.low
        unfold RfStep
        simp only
        obtain ⟨ef, hef2⟩ : ∃ x, m.eff i = x := ⟨_, rfl⟩
        obtain ⟨p, hp⟩ : ∃ x, (m.us i).1 = x := ⟨_, rfl⟩
        obtain ⟨ac, hac2⟩ : ∃ x, m.ac = x := ⟨_, rfl⟩
        simp only [hef2] at HU hef h2
        simp only [hp] at HU
        rw [hac2] at hac h2 hef
        have HAC := Lib.hid hac2
        have t2 : decide (ac - ef < n) = false := by simp; omega
        have w1 : IntKind.i64.wrap (ac - ef) = ac - ef := by rw [IntKind.wrap_i64]; omega
        clear e1 h c13 eu hef2 hp hac2
        go_enter Try.func28, Try.ntmps28
        go_wp2_with fail
        refine HI.out.mono ?_
        rintro e w1 ⟨rfl, ho⟩
        go_wp2_with fail
        refine (HU _ (by repeat' (first | (with_reducible exact Only.refl _ _) | (with_reducible assumption) | (refine Only.of_none ?_; with_reducible assumption) | (with_reducible refine Only.drewN ?_ _) | (with_reducible refine Only.drew ?_) | (with_reducible refine Only.alloc ?_ _) | (with_reducible refine Only.setCell ?_ ?_ _) | (with_reducible refine Only.then0 ?_ (by with_reducible assumption)) | (with_reducible refine Only.thenN ?_ (by with_reducible assumption) ?_) | (with_reducible refine Only.trans ?_ (by with_reducible assumption)) | (refine .inl ?_; first | rfl | (simp; done) | (simp [Ar.blk]; done)) | (refine .inr ?_; first | omega | (simp; done) | (simp; omega) | exact Only.size (by with_reducible assumption) | (refine Nat.le_trans (Only.size (by with_reducible assumption)) ?_; simp; done))))).out.mono ?_
        rintro e w2 ⟨rfl, ho2⟩
        clear HU HI
        have R := hAT.out w2 (by repeat' (first | (with_reducible exact Only.refl _ _) | (with_reducible assumption) | (refine Only.of_none ?_; with_reducible assumption) | (with_reducible refine Only.drewN ?_ _) | (with_reducible refine Only.drew ?_) | (with_reducible refine Only.alloc ?_ _) | (with_reducible refine Only.setCell ?_ ?_ _) | (with_reducible refine Only.then0 ?_ (by with_reducible assumption)) | (with_reducible refine Only.thenN ?_ (by with_reducible assumption) ?_) | (with_reducible refine Only.trans ?_ (by with_reducible assumption)) | (refine .inl ?_; first | rfl | (simp; done) | (simp [Ar.blk]; done)) | (refine .inr ?_; first | omega | (simp; done) | (simp; omega) | exact Only.size (by with_reducible assumption) | (refine Nat.le_trans (Only.size (by with_reducible assumption)) ?_; simp; done))))
        have o0 : Only (fun _ => False) w w2 := by repeat' (first | (with_reducible exact Only.refl _ _) | (with_reducible assumption) | (refine Only.of_none ?_; with_reducible assumption) | (with_reducible refine Only.drewN ?_ _) | (with_reducible refine Only.drew ?_) | (with_reducible refine Only.alloc ?_ _) | (with_reducible refine Only.setCell ?_ ?_ _) | (with_reducible refine Only.then0 ?_ (by with_reducible assumption)) | (with_reducible refine Only.thenN ?_ (by with_reducible assumption) ?_) | (with_reducible refine Only.trans ?_ (by with_reducible assumption)) | (refine .inl ?_; first | rfl | (simp; done) | (simp [Ar.blk]; done)) | (refine .inr ?_; first | omega | (simp; done) | (simp; omega) | exact Only.size (by with_reducible assumption) | (refine Nat.le_trans (Only.size (by with_reducible assumption)) ?_; simp; done)))
        have c13 := R.c13.cell
        rw [HAC.out] at c13
        have c15 := R.c15.cell
        have c17 := R.c17.cell
        have hd := (R.hd i hi).cell
        have hdf := (R.hd i hi).free
        have own := R.own i hi
        have z1 := cell_lt c17
        have z2 := cell_lt hd
        have i1 : (0 : Int) ≤ (i : Int) ∧ (i : Int) < (k : Int) := by omega
        have HRR := Lib.hid R
        obtain ⟨vi, hvi⟩ : ∃ vi, hv i = vi := ⟨_, rfl⟩
        rw [hvi] at hd own
        have HVI := Lib.hid hvi
        have OWN := Lib.hid own
        clear R hvi own hat hm ok rok hAT
        go_wp2_with fail
        have OW := fun W (o : Only (fun _ => False) w2 W) => Lib.hid (ownsRow_only OWN.out o (fun _ _ => id))
        have CC := fun W (o : Only (fun _ => False) w2 W) r w3 (hg : World.grownBy W w3 r) (hr : r = vi.ownBlock) => Lib.hid (show w3.cell? ⟨b, 15, none⟩ = some (.int .i64 m.now) ∧ w3.cell? ⟨b, 17, none⟩ = some (.slice (some ⟨gt, 0, none⟩) k k) ∧ w3.cell? ⟨gt, i, none⟩ = some vi ∧ w3.frozen? ⟨gt, i, none⟩ = false from by
          have RR := HRR.out.only o (fun _ _ => id)
          have hrow : ∀ q, r = some q → base ≤ q := fun q e => (OWN.out.lt q (by rw [← hr]; exact e)).1
          have o1 : Only (fun i => base ≤ i) W w3 := Only.of_grown hg hrow
          have hl := RR.lows
          exact ⟨(RR.c15.only o1 (by omega)).cell, (RR.c17.only o1 (by omega)).cell, by have := ((RR.hd i hi).only o1 (by omega)).cell; rw [HVI.out] at this; exact this, ((RR.hd i hi).only o1 (by omega)).free⟩)
        have hs02 := o0.size
        obtain ⟨now, hnow⟩ : ∃ now, m.now = now := ⟨_, rfl⟩
        simp only [hnow] at CC c15
        have HNO := Lib.hid hnow
        clear hnow
        go_region_law (refine step_append_lies _ rfl (.tmp 45) (.tmp 52) 143 rfl base 145 i3 (.agg #[.int .i64 0, .int .i64 0]) 2 16 Try.underlying143 hi3 hz3 hs3 hb3 rfl (by decide) vi (T i).length (takeV (T i)) (by simp [Act.eval, Act.put]) (OW _ (by repeat' (first | (with_reducible exact Only.refl _ _) | (with_reducible assumption) | (refine Only.of_none ?_; with_reducible assumption) | (with_reducible refine Only.drewN ?_ _) | (with_reducible refine Only.drew ?_) | (with_reducible refine Only.alloc ?_ _) | (with_reducible refine Only.setCell ?_ ?_ _) | (with_reducible refine Only.then0 ?_ (by with_reducible assumption)) | (with_reducible refine Only.thenN ?_ (by with_reducible assumption) ?_) | (with_reducible refine Only.trans ?_ (by with_reducible assumption)) | (refine .inl ?_; first | rfl | (simp; done) | (simp [Ar.blk]; done)) | (refine .inr ?_; first | omega | (simp; done) | (simp; omega) | exact Only.size (by with_reducible assumption) | (refine Nat.le_trans (Only.size (by with_reducible assumption)) ?_; simp; done))))).out ⟨w2.heap.size, 0, none⟩ 1 1 [.int .i64 now, .int .i64 n] (by simp [Act.eval, Act.put]) rfl (cell_pair_new _ _ _ _) (by intro u hu; simp at hu; rcases hu with hu | hu <;> subst hu <;> rfl) (by decide) (by unfold maxLen; omega) (by omega) (by simp; omega) (w2.heap.size + 1) (by simp) ?_; intro g cap3 w3 hown hgrow hat3 hlt3; obtain ⟨d15, d17, dhd, dhf⟩ := (CC _ (by repeat' (first | (with_reducible exact Only.refl _ _) | (with_reducible assumption) | (refine Only.of_none ?_; with_reducible assumption) | (with_reducible refine Only.drewN ?_ _) | (with_reducible refine Only.drew ?_) | (with_reducible refine Only.alloc ?_ _) | (with_reducible refine Only.setCell ?_ ?_ _) | (with_reducible refine Only.then0 ?_ (by with_reducible assumption)) | (with_reducible refine Only.thenN ?_ (by with_reducible assumption) ?_) | (with_reducible refine Only.trans ?_ (by with_reducible assumption)) | (refine .inl ?_; first | rfl | (simp; done) | (simp [Ar.blk]; done)) | (refine .inr ?_; first | omega | (simp; done) | (simp; omega) | exact Only.size (by with_reducible assumption) | (refine Nat.le_trans (Only.size (by with_reducible assumption)) ?_; simp; done)))) _ w3 hgrow rfl).out)
        all_goals
          go_wp2_with fail
          go_returns
          have hA := fun hh => RfAt.append (base := base) (b := b) (gp := gp) (gt := gt) (m := m) (k := k) (hv := hv) (T := T) hh hi (x := (m.now, n)) (m.eff i + n) m.w (by rw [HNO.out]; exact hown) (by rw [HVI.out]; exact hgrow) (by rw [HVI.out]; rcases hat3 with e | e; exact .inl (by rw [e]; rfl); exact .inr (by simp [Value.ownBlock, e]))
          have hB := hA (HRR.out.only (by repeat' (first | (with_reducible exact Only.refl _ _) | (with_reducible assumption) | (refine Only.of_none ?_; with_reducible assumption) | (with_reducible refine Only.drewN ?_ _) | (with_reducible refine Only.drew ?_) | (with_reducible refine Only.alloc ?_ _) | (with_reducible refine Only.setCell ?_ ?_ _) | (with_reducible refine Only.then0 ?_ (by with_reducible assumption)) | (with_reducible refine Only.thenN ?_ (by with_reducible assumption) ?_) | (with_reducible refine Only.trans ?_ (by with_reducible assumption)) | (refine .inl ?_; first | rfl | (simp; done) | (simp [Ar.blk]; done)) | (refine .inr ?_; first | omega | (simp; done) | (simp; omega) | exact Only.size (by with_reducible assumption) | (refine Nat.le_trans (Only.size (by with_reducible assumption)) ?_; simp; done)))) (fun _ _ => id))
          exact ⟨_, _, rfl, hB.1, hOK.out, (Only.of_none (S := RfB base b gp gt) (show Only (fun _ => False) w _ from by repeat' (first | (with_reducible exact Only.refl _ _) | (with_reducible assumption) | (refine Only.of_none ?_; with_reducible assumption) | (with_reducible refine Only.drewN ?_ _) | (with_reducible refine Only.drew ?_) | (with_reducible refine Only.alloc ?_ _) | (with_reducible refine Only.setCell ?_ ?_ _) | (with_reducible refine Only.then0 ?_ (by with_reducible assumption)) | (with_reducible refine Only.thenN ?_ (by with_reducible assumption) ?_) | (with_reducible refine Only.trans ?_ (by with_reducible assumption)) | (refine .inl ?_; first | rfl | (simp; done) | (simp [Ar.blk]; done)) | (refine .inr ?_; first | omega | (simp; done) | (simp; omega) | exact Only.size (by with_reducible assumption) | (refine Nat.le_trans (Only.size (by with_reducible assumption)) ?_; simp; done))))).trans hB.2⟩
  · have e1 : m.acts c n = (1, m) := by unfold Mt.acts; rw [if_pos (.inl hm)]
    rw [decide_eq_false hm] at HI
    have HS := fun w' => Lib.hid (RfStep.stay (x := 1) (w' := w') h rok)
    rw [e1]
    generalize RfStep base b gp gt k N w (1, m) = R at *
    clear e1 ok hm h rok
    go_enter Try.func28, Try.ntmps28
    go_wp2_with fail
    refine HI.out.mono ?_
    rintro e w1 ⟨rfl, ho⟩
    go_wp2_with fail
    exact (HS _).out (by repeat' (first | (with_reducible exact Only.refl _ _) | (with_reducible assumption) | (refine Only.of_none ?_; with_reducible assumption) | (with_reducible refine Only.drewN ?_ _) | (with_reducible refine Only.drew ?_) | (with_reducible refine Only.alloc ?_ _) | (with_reducible refine Only.setCell ?_ ?_ _) | (with_reducible refine Only.then0 ?_ (by with_reducible assumption)) | (with_reducible refine Only.thenN ?_ (by with_reducible assumption) ?_) | (with_reducible refine Only.trans ?_ (by with_reducible assumption)) | (refine .inl ?_; first | rfl | (simp; done) | (simp [Ar.blk]; done)) | (refine .inr ?_; first | omega | (simp; done) | (simp; omega) | exact Only.size (by with_reducible assumption) | (refine Nat.le_trans (Only.size (by with_reducible assumption)) ?_; simp; done))))
end Go.Proofs.Ytiiflgihjnlmcaa
