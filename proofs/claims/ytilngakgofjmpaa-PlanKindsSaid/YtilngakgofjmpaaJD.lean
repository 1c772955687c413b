/- Plan: plan.of for any kind; Of. Conditions: a book as its New lays it. -/
import Derived.Test.YtilngakgofjmpaaPlo5
import Derived.Test.YtilngakgofjmpaaPlo4
import Derived.Test.YtilngakgofjmpaaPlo1
import Derived.Test.YtilngakgofjmpaaPlo0
import Derived.Test.YtilngakgofjmpaaPlM
namespace Go.Proofs.Ytilngakgofjmpaa
set_option linter.unusedVariables false
set_option linter.unusedSimpArgs false
open Go.RowKit Go.Shelf
open Od (OrdR)

theorem k_of {w : World} {b most room : Nat} {T : Nat → Prop} {l : Bool → List OrdR} (h : Bk w b T most room l) (e : EnR) (hm : mayE e = true) (out : OrdR) :
    Calls Try.prog 118 #[.pointer (some ⟨b, 0, none⟩), enV e, ordV out] w (PlanPost w (planR e (facO l e.s e.p) (fun g => fitC most room l e.s e.p out g))) := by
  have hk := (mayE_parts hm).1
  by_cases h5 : e.k = 5
  · exact k_of5 h e hm h5 out
  · by_cases h4 : e.k = 4
    · exact k_of4 h e hm h4 out
    · by_cases h1 : e.k = 1
      · exact k_of1 h e hm h1 out
      · exact k_of0 h e hm (by omega) out

/-- A plan is stored. -/
theorem st_four {A : World} {P : Nat} {x0 x1 x2 x3 : Value} (h0 : Cell A P 0 x0) (h1 : Cell A P 1 x1) (h2 : Cell A P 2 x2) (h3 : Cell A P 3 x3) (y0 y1 y2 y3 : Value) :
    (Cell ((((A.setCell ⟨P, 0, none⟩ y0).setCell ⟨P, 1, none⟩ y1).setCell ⟨P, 2, none⟩ y2).setCell ⟨P, 3, none⟩ y3) P 0 y0 ∧ Cell ((((A.setCell ⟨P, 0, none⟩ y0).setCell ⟨P, 1, none⟩ y1).setCell ⟨P, 2, none⟩ y2).setCell ⟨P, 3, none⟩ y3) P 1 y1 ∧
      Cell ((((A.setCell ⟨P, 0, none⟩ y0).setCell ⟨P, 1, none⟩ y1).setCell ⟨P, 2, none⟩ y2).setCell ⟨P, 3, none⟩ y3) P 2 y2 ∧ Cell ((((A.setCell ⟨P, 0, none⟩ y0).setCell ⟨P, 1, none⟩ y1).setCell ⟨P, 2, none⟩ y2).setCell ⟨P, 3, none⟩ y3) P 3 y3) ∧
      Only (· = P) A ((((A.setCell ⟨P, 0, none⟩ y0).setCell ⟨P, 1, none⟩ y1).setCell ⟨P, 2, none⟩ y2).setCell ⟨P, 3, none⟩ y3) := by
  have f : ∀ {o o' : Nat}, o ≠ o' → (⟨P, o, none⟩ : Addr) ≠ ⟨P, o', none⟩ := fun h => off_ne h
  refine ⟨⟨?_, ?_, ?_, ?_⟩, ?_⟩
  · exact (((h0.set y0).far (f (by decide)) _).far (f (by decide)) _).far (f (by decide)) _
  · exact (((h1.far (f (by decide)) _).set y1).far (f (by decide)) _).far (f (by decide)) _
  · exact (((h2.far (f (by decide)) _).far (f (by decide)) _).set y2).far (f (by decide)) _
  · exact (((h3.far (f (by decide)) _).far (f (by decide)) _).far (f (by decide)) _).set y3
  · exact ((((Only.refl (· = P) A).setCell (.inl rfl) _).setCell (.inl rfl) _).setCell (.inl rfl) _).setCell (.inl rfl) _
/-- The four cells of a plan, nothing in them. -/
structure P4 (P : Nat) (A : World) : Prop where
  c0 : Cell A P 0 (.slice none 0 0)
  c1 : Cell A P 1 (.int .i64 0)
  c2 : Cell A P 2 (.int .i64 0)
  c3 : Cell A P 3 (.int .i64 0)
theorem P4.keep {P : Nat} {A B : World} (h : P4 P A) (o : Only (fun _ => False) A B) : P4 P B := ⟨h.c0.only o id, h.c1.only o id, h.c2.only o id, h.c3.only o id⟩
theorem P4.new (w : World) : P4 w.heap.size (w.alloc (.cells #[.slice none 0 0, .int .i64 0, .int .i64 0, .int .i64 0] 104)) := ⟨Cell.new rfl, Cell.new rfl, Cell.new rfl, Cell.new rfl⟩
/-- What stands behind the last store of a plan. -/
theorem plan_ret {w B : World} {P base : Nat} {v : Value} {n : Nat} {xs : List Value} (hP : w.heap.size ≤ P) (o : Only (fun _ => False) w B) (h4 : P4 P B) (hw : B.ownsRow base 117 4 v n xs) (hb : w.heap.size ≤ base) (hPb : P < base) (t r g : Int) :
    ∃ B', B' = ((((B.setCell ⟨P, 0, none⟩ v).setCell ⟨P, 1, none⟩ (.int .i64 t)).setCell ⟨P, 2, none⟩ (.int .i64 r)).setCell ⟨P, 3, none⟩ (.int .i64 g)) ∧ Cell B' P 0 v ∧ Cell B' P 1 (.int .i64 t) ∧ Cell B' P 2 (.int .i64 r) ∧ Cell B' P 3 (.int .i64 g) ∧ B'.ownsRow w.heap.size 117 4 v n xs ∧ Only (fun _ => False) w B' := by
  obtain ⟨⟨p0, p1, p2, p3⟩, oS⟩ := st_four h4.c0 h4.c1 h4.c2 h4.c3 v (.int .i64 t) (.int .i64 r) (.int .i64 g)
  exact ⟨_, rfl, p0, p1, p2, p3, ownsRow_base (ownsRow_apart hw oS (fun i hi e => by have := (hw.lt i hi).1; omega)) hb, o.trans' oS (fun i h1 h2 => by omega)⟩

set_option maxRecDepth 100000 in
set_option maxHeartbeats 4000000 in
theorem k_Of {w : World} {b most room : Nat} {T : Nat → Prop} {l : Bool → List OrdR} (h : Bk w b T most room l) (e : EnR) :
    Calls Try.prog 53 #[.pointer (some ⟨b, 0, none⟩), enV e] w (PlanPost w (planC most room l e)) := by
  have HM := Lib.hid fun W => k_may e W
  obtain ⟨PL, hPL⟩ : ∃ PL, planC most room l e = PL := ⟨_, rfl⟩
  rw [hPL]
  have hPL1 : mayE e = true → planR e (facO l e.s e.p) (fun g => fitC most room l e.s e.p zOrd g) = PL := fun hm => by rw [← hPL]; unfold planC; rw [if_pos hm]
  have hPL0 : ¬ mayE e = true → PL = noPlan 1 := fun hm => by rw [← hPL]; unfold planC; rw [if_neg hm]
  have HF := Lib.hid fun W (o : Only (fun _ => False) w W) (hm : mayE e = true) => (show Calls Try.prog 118 #[.pointer (some ⟨b, 0, none⟩), enV e, .agg #[.int .i64 0, .int .i64 0, .int .u8 0, .int .i64 0, .int .i64 0]] W (PlanPost W PL) from by rw [← hPL1 hm]; exact k_of (h.only o (fun _ _ => id)) e hm zOrd)
  obtain ⟨ec, ek, es, ep, eq⟩ := e
  unfold enV at HM HF ⊢
  simp only at HM HF ⊢
  obtain ⟨M, hM⟩ : ∃ M, mayE ⟨ec, ek, es, ep, eq⟩ = M := ⟨_, rfl⟩
  rw [hM] at HM
  have HHM := Lib.hid hM
  have HPL := Lib.hid (⟨hPL1, hPL0⟩ : _ ∧ _)
  have oA : Only (fun _ => False) w ((w.alloc (.cells #[.int .i64 ec, .int .u8 ek, .int .u8 es, .int .i64 ep, .int .i64 eq] 111)).alloc (.cells #[.slice none 0 0, .int .i64 0, .int .i64 0, .int .i64 0] 104)) := ((Only.refl _ w).alloc _).alloc _
  have hE : ∀ (o : Nat) (v : Value), (#[.int .i64 ec, .int .u8 ek, .int .u8 es, .int .i64 ep, .int .i64 eq] : Array Value)[o]? = some v → Cell ((w.alloc (.cells #[.int .i64 ec, .int .u8 ek, .int .u8 es, .int .i64 ep, .int .i64 eq] 111)).alloc (.cells #[.slice none 0 0, .int .i64 0, .int .i64 0, .int .i64 0] 104)) w.heap.size o v := fun o v hv => (Cell.new hv).alloc _
  have h4 := P4.new (w.alloc (.cells #[.int .i64 ec, .int .u8 ek, .int .u8 es, .int .i64 ep, .int .i64 eq] 111))
  rw [World.size_alloc] at h4
  have HA := Lib.hid (⟨oA, hE, h4⟩ : _ ∧ _ ∧ _)
  clear h hPL hPL1 hPL0 hM oA hE h4
  go_enter Try.func53, Try.ntmps53
  go_wp2_with fail
  refine (HM.out _).mono ?_
  rintro en w1 ⟨rfl, o1⟩
  obtain ⟨oA, hE, h4⟩ := HA.out
  have O1 := oA.trans o1
  have h4 := h4.keep o1
  have y0 := ((hE 0 _ rfl).only o1 id).cell
  have y1 := ((hE 1 _ rfl).only o1 id).cell
  have y2 := ((hE 2 _ rfl).only o1 id).cell
  have y3 := ((hE 3 _ rfl).only o1 id).cell
  have y4 := ((hE 4 _ rfl).only o1 id).cell
  have zy := cell_lt y0
  have HB := Lib.hid (⟨O1, h4⟩ : _ ∧ _)
  cases M with
  | false =>
    have hpl := HPL.out.2 (by rw [HHM.out]; decide)
    subst hpl
    have q0 := h4.c0.cell
    have q1 := h4.c1.cell
    have q2 := h4.c2.cell
    have q3 := h4.c3.cell
    have f0 := h4.c0.free
    have f1 := h4.c1.free
    have f2 := h4.c2.free
    have f3 := h4.c3.free
    have z0 := cell_lt q0
    clear HPL HF O1 h4 oA hE o1 HA HM
    go_wp2_with fail
    obtain ⟨O1, h4⟩ := HB.out
    obtain ⟨B', hB', p0, p1, p2, p3, hw, o⟩ := plan_ret (v := .slice none 0 0) (base := w.heap.size + 2) (n := 0) (xs := []) (by omega) O1 h4 (World.ownsRow_nil _ _ _ _) (by omega) (by omega) 0 0 0
    have g0 := p0.cell
    have g1 := p1.cell
    have g2 := p2.cell
    have g3 := p3.cell
    rw [← hB']
    refine bodyPost_ret (by simp [results, Try.results53, go_sem, g0, g1, g2, g3]; try rfl) rfl ?_
    exact ⟨.slice none 0 0, rfl, hw, o⟩
  | true =>
    have HC := Lib.hid (HF.out _ O1 HHM.out)
    clear HPL HF O1 h4 oA hE o1 HA HM
    go_wp2_with fail
    refine HC.out.mono ?_
    intro en w2 hp
    obtain ⟨v, rfl, hw, o2⟩ := hp
    unfold planV
    obtain ⟨sa, sc, rfl, _⟩ := own_slice hw
    obtain ⟨er, hs, tr, re, gn⟩ := PL
    simp only at hw ⊢
    obtain ⟨O1, h4⟩ := HB.out
    have h4 := h4.keep o2
    have zp := HB.out.2.c0.lt
    have HD := Lib.hid (plan_ret (by omega) (O1.trans o2) h4 hw (by omega) (by omega) tr re gn)
    have q0 := h4.c0.cell
    have q1 := h4.c1.cell
    have q2 := h4.c2.cell
    have q3 := h4.c3.cell
    have f0 := h4.c0.free
    have f1 := h4.c1.free
    have f2 := h4.c2.free
    have f3 := h4.c3.free
    have z0 := cell_lt q0
    obtain ⟨n, hn⟩ : ∃ n, n = hs.length := ⟨_, rfl⟩
    rw [← hn] at HD hw ⊢
    have HN := Lib.hid hn
    clear O1 h4 o2 hw y0 y1 y2 y3 y4 zy hn
    go_wp2_with fail
    obtain ⟨B', hB', p0, p1, p2, p3, hw, o⟩ := HD.out
    have g0 := p0.cell
    have g1 := p1.cell
    have g2 := p2.cell
    have g3 := p3.cell
    rw [← hB']
    refine bodyPost_ret (by simp [results, Try.results53, go_sem, g0, g1, g2, g3]; try rfl) rfl ?_
    refine ⟨.slice sa n sc, rfl, ?_, o⟩
    show World.ownsRow _ _ _ _ _ hs.length _
    rw [← HN.out]
    exact hw
end Go.Proofs.Ytilngakgofjmpaa

/- Plan: Amend. Conditions: a book as its New lays it. -/
namespace Go.Proofs.Ytilngakgofjmpaa
set_option linter.unusedVariables false
set_option linter.unusedSimpArgs false
open Go.RowKit Go.Shelf
open Od (OrdR)

set_option maxRecDepth 100000 in
set_option maxHeartbeats 4000000 in
theorem k_Amend {w : World} {b most room : Nat} {T : Nat → Prop} {l : Bool → List OrdR} (h : Bk w b T most room l) (k p q : Int) (hk : Wf k) :
    Calls Try.prog 60 #[.pointer (some ⟨b, 0, none⟩), .int .i64 k, .int .i64 p, .int .i64 q] w (PlanPost w (amendC most room l k p q)) := by
  have HG := Lib.hid fun W (o : Only (fun _ => False) w W) => bk_get (h.only o (fun _ _ => id)) k hk
  obtain ⟨PL, hPL⟩ : ∃ PL, amendC most room l k p q = PL := ⟨_, rfl⟩
  rw [hPL]
  have oA : Only (fun _ => False) w (w.alloc (.cells #[.slice none 0 0, .int .i64 0, .int .i64 0, .int .i64 0] 104)) := (Only.refl _ w).alloc _
  have h4 := P4.new w
  have HA := Lib.hid (⟨oA, h4⟩ : _ ∧ _)
  clear oA h4
  cases hget : getL l k with
  | none =>
    obtain rfl : PL = noPlan 63 := by rw [← hPL]; unfold amendC; rw [hget]
    rw [hget] at HG
    unfold ordV zOrd at HG
    simp only at HG
    clear h hPL hget
    go_enter Try.func60, Try.ntmps60
    go_wp2_with fail
    refine (HG.out _ (by repeat' (first | (with_reducible exact Only.refl _ _) | (with_reducible assumption) | (refine Only.of_none ?_; with_reducible assumption) | (with_reducible refine Only.drewN ?_ _) | (with_reducible refine Only.drew ?_) | (with_reducible refine Only.alloc ?_ _) | (with_reducible refine Only.setCell ?_ ?_ _) | (with_reducible refine Only.then0 ?_ (by with_reducible assumption)) | (with_reducible refine Only.thenN ?_ (by with_reducible assumption) ?_) | (with_reducible refine Only.trans ?_ (by with_reducible assumption)) | (refine .inl ?_; first | rfl | (simp; done) | (simp [Ar.blk]; done)) | (refine .inr ?_; first | omega | (simp; done) | (simp; omega) | exact Only.size (by with_reducible assumption) | (refine Nat.le_trans (Only.size (by with_reducible assumption)) ?_; simp; done))))).mono ?_
    rintro en w1 ⟨rfl, o1⟩
    obtain ⟨oA, h4⟩ := HA.out
    have O1 := oA.trans o1
    have h4 := (h4.keep o1).keep ((Only.refl _ w1).alloc (.cells #[.int .i64 0, .int .i64 0, .int .u8 0, .int .i64 0, .int .i64 0] 54))
    have O1 := O1.alloc (.cells #[.int .i64 0, .int .i64 0, .int .u8 0, .int .i64 0, .int .i64 0] 54)
    have HB := Lib.hid (⟨O1, h4⟩ : _ ∧ _)
    have q0 := h4.c0.cell
    have q1 := h4.c1.cell
    have q2 := h4.c2.cell
    have q3 := h4.c3.cell
    have f0 := h4.c0.free
    have f1 := h4.c1.free
    have f2 := h4.c2.free
    have f3 := h4.c3.free
    have zq := cell_lt q0
    clear oA O1 h4 o1 HA HG
    go_wp2_with fail
    obtain ⟨O1, h4⟩ := HB.out
    obtain ⟨B', hB', p0, p1, p2, p3, hw, o⟩ := plan_ret (v := .slice none 0 0) (base := w.heap.size + 1) (n := 0) (xs := []) (Nat.le_refl _) O1 h4 (World.ownsRow_nil _ _ _ _) (by omega) (by omega) 0 0 0
    have g0 := p0.cell
    have g1 := p1.cell
    have g2 := p2.cell
    have g3 := p3.cell
    rw [← hB']
    refine bodyPost_ret (by simp [results, Try.results60, go_sem, g0, g1, g2, g3]; try rfl) rfl ?_
    exact ⟨.slice none 0 0, rfl, hw, o⟩
  | some o =>
    rw [hget] at HG
    simp only at HG
    have hPL1 : mayE ⟨o.c, 1, o.s, p, q⟩ = true → planR ⟨o.c, 1, o.s, p, q⟩ (facO l o.s p) (fun g => fitC most room l o.s p o g) = PL := fun hm => by rw [← hPL]; unfold amendC; rw [hget]; simp only; rw [if_pos hm]
    have hPL0 : ¬ mayE ⟨o.c, 1, o.s, p, q⟩ = true → PL = noPlan 1 := fun hm => by rw [← hPL]; unfold amendC; rw [hget]; simp only; rw [if_neg hm]
    have HF := Lib.hid fun W (oW : Only (fun _ => False) w W) (hm : mayE ⟨o.c, 1, o.s, p, q⟩ = true) => (show Calls Try.prog 118 #[.pointer (some ⟨b, 0, none⟩), enV ⟨o.c, 1, o.s, p, q⟩, ordV o] W (PlanPost W PL) from by rw [← hPL1 hm]; exact k_of (h.only oW (fun _ _ => id)) ⟨o.c, 1, o.s, p, q⟩ hm o)
    have HM := Lib.hid fun W => k_may ⟨o.c, 1, o.s, p, q⟩ W
    obtain ⟨oi, oc, os, op, oq⟩ := o
    unfold ordV at HG HF
    unfold enV at HM HF
    simp only at HG HF HM hPL0
    obtain ⟨M, hM⟩ : ∃ M, mayE ⟨oc, 1, os, p, q⟩ = M := ⟨_, rfl⟩
    rw [hM] at HM
    have HHM := Lib.hid hM
    have HPL := Lib.hid hPL0
    clear h hPL hPL0 hPL1 hget hM
    go_enter Try.func60, Try.ntmps60
    go_wp2_with fail
    refine (HG.out _ (by repeat' (first | (with_reducible exact Only.refl _ _) | (with_reducible assumption) | (refine Only.of_none ?_; with_reducible assumption) | (with_reducible refine Only.drewN ?_ _) | (with_reducible refine Only.drew ?_) | (with_reducible refine Only.alloc ?_ _) | (with_reducible refine Only.setCell ?_ ?_ _) | (with_reducible refine Only.then0 ?_ (by with_reducible assumption)) | (with_reducible refine Only.thenN ?_ (by with_reducible assumption) ?_) | (with_reducible refine Only.trans ?_ (by with_reducible assumption)) | (refine .inl ?_; first | rfl | (simp; done) | (simp [Ar.blk]; done)) | (refine .inr ?_; first | omega | (simp; done) | (simp; omega) | exact Only.size (by with_reducible assumption) | (refine Nat.le_trans (Only.size (by with_reducible assumption)) ?_; simp; done))))).mono ?_
    rintro en w1 ⟨rfl, o1⟩
    go_wp2_with fail
    obtain ⟨oA, h4⟩ := HA.out
    have O1 := oA.trans o1
    have h4 := h4.keep o1
    have o2 : Only (fun _ => False) w1 ((w1.alloc (.cells #[.int .i64 oi, .int .i64 oc, .int .u8 os, .int .i64 op, .int .i64 oq] 54)).alloc (.cells #[.int .i64 oc, .int .u8 1, .int .u8 os, .int .i64 p, .int .i64 q] 111)) := ((Only.refl _ w1).alloc _).alloc _
    have O2 := O1.trans o2
    have h4 := h4.keep o2
    have hO : ∀ (o : Nat) (v : Value), (#[.int .i64 oi, .int .i64 oc, .int .u8 os, .int .i64 op, .int .i64 oq] : Array Value)[o]? = some v → Cell ((w1.alloc (.cells #[.int .i64 oi, .int .i64 oc, .int .u8 os, .int .i64 op, .int .i64 oq] 54)).alloc (.cells #[.int .i64 oc, .int .u8 1, .int .u8 os, .int .i64 p, .int .i64 q] 111)) w1.heap.size o v := fun o v hv => (Cell.new hv).alloc _
    have hE : ∀ (o : Nat) (v : Value), (#[.int .i64 oc, .int .u8 1, .int .u8 os, .int .i64 p, .int .i64 q] : Array Value)[o]? = some v → Cell ((w1.alloc (.cells #[.int .i64 oi, .int .i64 oc, .int .u8 os, .int .i64 op, .int .i64 oq] 54)).alloc (.cells #[.int .i64 oc, .int .u8 1, .int .u8 os, .int .i64 p, .int .i64 q] 111)) (w1.heap.size + 1) o v := fun o v hv => by
      have := Cell.new (w := w1.alloc (.cells #[.int .i64 oi, .int .i64 oc, .int .u8 os, .int .i64 op, .int .i64 oq] 54)) (t := 111) hv
      rwa [World.size_alloc] at this
    have HX := Lib.hid (⟨O2, h4, hO, hE⟩ : _ ∧ _ ∧ _ ∧ _)
    clear oA o1 o2 O1 O2 h4 hO hE HA HG
    refine (HM.out _).mono ?_
    rintro en w2 ⟨rfl, o3⟩
    obtain ⟨O2, h4, hO, hE⟩ := HX.out
    have O3 := O2.trans o3
    have h4 := h4.keep o3
    have y0 := ((hE 0 _ rfl).only o3 id).cell
    have y1 := ((hE 1 _ rfl).only o3 id).cell
    have y2 := ((hE 2 _ rfl).only o3 id).cell
    have y3 := ((hE 3 _ rfl).only o3 id).cell
    have y4 := ((hE 4 _ rfl).only o3 id).cell
    have x0 := ((hO 0 _ rfl).only o3 id).cell
    have x1 := ((hO 1 _ rfl).only o3 id).cell
    have x2 := ((hO 2 _ rfl).only o3 id).cell
    have x3 := ((hO 3 _ rfl).only o3 id).cell
    have x4 := ((hO 4 _ rfl).only o3 id).cell
    have zy := cell_lt y0
    have zx := cell_lt x0
    have HB := Lib.hid (⟨O3, h4⟩ : _ ∧ _)
    cases M with
    | false =>
      have hpl := HPL.out (by rw [HHM.out]; decide)
      subst hpl
      have q0 := h4.c0.cell
      have q1 := h4.c1.cell
      have q2 := h4.c2.cell
      have q3 := h4.c3.cell
      have f0 := h4.c0.free
      have f1 := h4.c1.free
      have f2 := h4.c2.free
      have f3 := h4.c3.free
      have zq := cell_lt q0
      clear HPL HF O2 O3 h4 hO hE o3 HM HX
      go_wp2_with fail
      obtain ⟨O1, h4⟩ := HB.out
      obtain ⟨B', hB', p0, p1, p2, p3, hw, o⟩ := plan_ret (v := .slice none 0 0) (base := w.heap.size + 1) (n := 0) (xs := []) (Nat.le_refl _) O1 h4 (World.ownsRow_nil _ _ _ _) (by omega) (by omega) 0 0 0
      have g0 := p0.cell
      have g1 := p1.cell
      have g2 := p2.cell
      have g3 := p3.cell
      rw [← hB']
      refine bodyPost_ret (by simp [results, Try.results60, go_sem, g0, g1, g2, g3]; try rfl) rfl ?_
      exact ⟨.slice none 0 0, rfl, hw, o⟩
    | true =>
      have HC := Lib.hid (HF.out _ O3 HHM.out)
      clear HPL HF O2 O3 h4 hO hE o3 HM HX
      go_wp2_with fail
      refine HC.out.mono ?_
      intro en w3 hp
      obtain ⟨v, rfl, hw, o4⟩ := hp
      unfold planV
      obtain ⟨sa, sc, rfl, _⟩ := own_slice hw
      obtain ⟨er, hs, tr, re, gn⟩ := PL
      simp only at hw ⊢
      obtain ⟨O3, h4⟩ := HB.out
      have h4 := h4.keep o4
      have zp := HB.out.2.c0.lt
      have HD := Lib.hid (plan_ret (Nat.le_refl _) (O3.trans o4) h4 hw (by omega) (by omega) tr re gn)
      have q0 := h4.c0.cell
      have q1 := h4.c1.cell
      have q2 := h4.c2.cell
      have q3 := h4.c3.cell
      have f0 := h4.c0.free
      have f1 := h4.c1.free
      have f2 := h4.c2.free
      have f3 := h4.c3.free
      have zq := cell_lt q0
      obtain ⟨n, hn⟩ : ∃ n, n = hs.length := ⟨_, rfl⟩
      rw [← hn] at HD hw ⊢
      have HN := Lib.hid hn
      clear O3 h4 o4 hw y0 y1 y2 y3 y4 zy x0 x1 x2 x3 x4 zx hn
      go_wp2_with fail
      obtain ⟨B', hB', p0, p1, p2, p3, hw, o⟩ := HD.out
      have g0 := p0.cell
      have g1 := p1.cell
      have g2 := p2.cell
      have g3 := p3.cell
      rw [← hB']
      refine bodyPost_ret (by simp [results, Try.results60, go_sem, g0, g1, g2, g3]; try rfl) rfl ?_
      refine ⟨.slice sa n sc, rfl, ?_, o⟩
      show World.ownsRow _ _ _ _ _ hs.length _
      rw [← HN.out]
      exact hw
end Go.Proofs.Ytilngakgofjmpaa
