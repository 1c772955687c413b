/- The document's Amend. Conditions: a book as its New lays it. -/
import Derived.Test.YtilngakgofjmpaaPlr
namespace Go.Proofs.Ytilngakgofjmpaa
set_option linter.unusedVariables false
set_option linter.unusedSimpArgs false
open Go.RowKit Go.Shelf
open Od (OrdR)

set_option maxRecDepth 100000 in
set_option maxHeartbeats 4000000 in
theorem r_Amend {w : World} {r most room : Nat} {vv : Bool → Value} {l : Bool → List OrdR} (h : R6M w r vv most room l) (g : Good most room l) (k p q : Int) :
    Calls Try.prog 59 #[.pointer (some ⟨r, 0, none⟩), .int .i64 k, .int .i64 p, .int .i64 q] w (PlanPost w (amendD most room l k p q)) := by
  have hz : ∀ q, (l q).length ≤ 1000000 := fun q => by have := g.le q; omega
  have HG := Lib.hid fun W (o : Only (fun _ => False) w W) => r6_get (h.only o (fun _ _ => id)) hz k
  have HCP := Lib.hid fun W (o : Only (fun _ => False) w W) => r6_copy (h.only o (fun _ _ => id)) hz
  obtain ⟨PL, hPL⟩ : ∃ PL, amendD most room l k p q = PL := ⟨_, rfl⟩
  rw [hPL]
  have oA : Only (fun _ => False) w (w.alloc (.cells #[.slice none 0 0, .int .i64 0, .int .i64 0, .int .i64 0] 104)) := (Only.refl _ w).alloc _
  have h4 := P4.new w
  have HA := Lib.hid (⟨oA, h4⟩ : _ ∧ _)
  clear oA h4
  cases hget : getL l k with
  | none =>
    obtain rfl : PL = noPlan 63 := by rw [← hPL]; unfold amendD; rw [hget]
    rw [getV_none hget] at HG
    clear h g hPL hget hz HCP
    go_enter Try.func59, Try.ntmps59
    go_wp2_with fail
    refine (HG.out _ (by repeat' (first | (with_reducible exact Only.refl _ _) | (with_reducible assumption) | (refine Only.of_none ?_; with_reducible assumption) | (with_reducible refine Only.drewN ?_ _) | (with_reducible refine Only.drew ?_) | (with_reducible refine Only.alloc ?_ _) | (with_reducible refine Only.setCell ?_ ?_ _) | (with_reducible refine Only.then0 ?_ (by with_reducible assumption)) | (with_reducible refine Only.thenN ?_ (by with_reducible assumption) ?_) | (with_reducible refine Only.trans ?_ (by with_reducible assumption)) | (refine .inl ?_; first | rfl | (simp; done) | (simp [Ar.blk]; done)) | (refine .inr ?_; first | omega | (simp; done) | (simp; omega) | exact Only.size (by with_reducible assumption) | (refine Nat.le_trans (Only.size (by with_reducible assumption)) ?_; simp; done))))).mono ?_
    rintro en w1 ⟨rfl, o1⟩
    obtain ⟨oA, h4⟩ := HA.out
    have O1 := oA.trans o1
    have h4 := (h4.keep o1).keep ((Only.refl _ w1).alloc (.cells #[.int .i64 0, .int .i64 0, .int .u8 0, .int .i64 0, .int .i64 0] 54))
    have O1 := O1.alloc (.cells #[.int .i64 0, .int .i64 0, .int .u8 0, .int .i64 0, .int .i64 0] 54)
    have HB := Lib.hid (⟨O1, h4⟩ : _ ∧ _)
    have q0 := h4.c0.cell
    have q1 := h4.c1.cell
    have q2 := h4.c2.cell
    have q3 := h4.c3.cell
    have f0 := h4.c0.free
    have f1 := h4.c1.free
    have f2 := h4.c2.free
    have f3 := h4.c3.free
    have zq := cell_lt q0
    clear oA O1 h4 o1 HA HG
    go_wp2_with fail
    obtain ⟨O1, h4⟩ := HB.out
    obtain ⟨B', hB', p0, p1, p2, p3, hw, o⟩ := plan_ret (v := .slice none 0 0) (base := w.heap.size + 1) (n := 0) (xs := []) (Nat.le_refl _) O1 h4 (World.ownsRow_nil _ _ _ _) (by omega) (by omega) 0 0 0
    have g0 := p0.cell
    have g1 := p1.cell
    have g2 := p2.cell
    have g3 := p3.cell
    rw [← hB']
    refine bodyPost_ret (by simp [results, Try.results59, go_sem, g0, g1, g2, g3]; try rfl) rfl ?_
    exact ⟨.slice none 0 0, rfl, hw, o⟩
  | some o =>
    rw [getV_some hget] at HG
    have hPL2 : PL = if (1 ≤ p ∧ p ≤ 1000000000) ∧ 1 ≤ q ∧ q ≤ 1000000000 then planD most room (remS l k) ⟨o.c, 1, o.s, p, q⟩ else noPlan 1 := by rw [← hPL]; unfold amendD; rw [hget]
    have g' : Good most room (remS l k) := g.sub (fun k => delL_sub _ _) (fun k => dep_len_lt (sgn_one k) (g.srt k) (delL_sub _ _))
    obtain ⟨hi, sq, ho⟩ := getL_side hget
    have hso := g.side sq o ho
    have hoc := (g.ok sq o ho).2.2
    have HREM := Lib.hid fun (W : World) (r2 : Nat) (vv2 : Bool → Value) (hM : R6M W r2 vv2 most room l) => r6_remove hM g k
    rw [show remV l k = .tuple #[ordV o, .int .i64 0] by unfold remV; rw [hget]] at HREM
    have HPN := Lib.hid fun (W : World) (r2 : Nat) (vv2 : Bool → Value) (hM : R6M W r2 vv2 most room (remS l k)) (hm : mayE ⟨o.c, 1, o.s, p, q⟩ = true) => r_plan hM g' ⟨o.c, 1, o.s, p, q⟩ hm
    have hme : (1 ≤ p ∧ p ≤ 1000000000) ∧ 1 ≤ q ∧ q ≤ 1000000000 → mayE ⟨o.c, 1, o.s, p, q⟩ = true := fun hb => by
      unfold mayE
      have h3 : o.s = 1 ∨ o.s = 2 := by rw [hso]; cases sq <;> simp [sdN]
      have h1 := hoc.1
      have h2 := hoc.2.1
      simp [h1, h2, h3, hb]
    obtain ⟨oi, oc, os, op, oq⟩ := o
    unfold ordV at HREM
    unfold enV at HPN
    simp only at HG HREM HPN hPL2 hme
    have HPL := Lib.hid hPL2
    have HME := Lib.hid hme
    obtain ⟨BAD, hBAD⟩ : ∃ BAD, decide (¬ ((1 ≤ p ∧ p ≤ 1000000000) ∧ 1 ≤ q ∧ q ≤ 1000000000)) = BAD := ⟨_, rfl⟩
    clear h g g' hPL hPL2 hget hz hi ho hso hoc hme
    go_enter Try.func59, Try.ntmps59
    go_wp2_with fail
    refine (HG.out _ (by repeat' (first | (with_reducible exact Only.refl _ _) | (with_reducible assumption) | (refine Only.of_none ?_; with_reducible assumption) | (with_reducible refine Only.drewN ?_ _) | (with_reducible refine Only.drew ?_) | (with_reducible refine Only.alloc ?_ _) | (with_reducible refine Only.setCell ?_ ?_ _) | (with_reducible refine Only.then0 ?_ (by with_reducible assumption)) | (with_reducible refine Only.thenN ?_ (by with_reducible assumption) ?_) | (with_reducible refine Only.trans ?_ (by with_reducible assumption)) | (refine .inl ?_; first | rfl | (simp; done) | (simp [Ar.blk]; done)) | (refine .inr ?_; first | omega | (simp; done) | (simp; omega) | exact Only.size (by with_reducible assumption) | (refine Nat.le_trans (Only.size (by with_reducible assumption)) ?_; simp; done))))).mono ?_
    rintro en w1 ⟨rfl, o1⟩
    go_upto_region 4 with fail
    obtain ⟨W2, hW2⟩ : ∃ W2, w1.alloc (.cells #[.int .i64 oi, .int .i64 oc, .int .u8 os, .int .i64 op, .int .i64 oq] 54) = W2 := ⟨_, rfl⟩
    obtain ⟨bO, hbO⟩ : ∃ bO, w1.heap.size = bO := ⟨_, rfl⟩
    obtain ⟨oA, h4⟩ := HA.out
    have o2 : Only (fun _ => False) w1 W2 := by rw [← hW2]; exact (Only.refl _ _).alloc _
    have hO : ∀ (o : Nat) (v : Value), (#[.int .i64 oi, .int .i64 oc, .int .u8 os, .int .i64 op, .int .i64 oq] : Array Value)[o]? = some v → Cell W2 bO o v := fun o v hv => by rw [← hW2, ← hbO]; exact Cell.new hv
    have HB := Lib.hid (⟨(oA.trans o1).trans o2, (h4.keep o1).keep o2⟩ : _ ∧ _)
    have HO := Lib.hid hO
    try rw [hW2]
    try simp only [hbO]
    clear oA h4 o1 o2 hO hW2 hbO HA HG
    go_cut [35] from 22 to 35 (fun s35 wx => s35 = .bool BAD ∧ wx = W2)
    case first =>
      by_cases a1 : p < 1
      · have t1 : decide (p < 1) = true := by simpa using a1
        obtain rfl : BAD = true := by rw [← hBAD]; exact decide_eq_true (by omega)
        clear hBAD a1
        go_wp2_with fail
        go_meet
        exact ⟨rfl, rfl⟩
      have t1 : decide (p < 1) = false := by simpa using a1
      by_cases a2 : 1000000000 < p
      · have t2 : decide (1000000000 < p) = true := by simpa using a2
        obtain rfl : BAD = true := by rw [← hBAD]; exact decide_eq_true (by omega)
        clear hBAD a1 a2
        go_wp2_with fail
        go_meet
        exact ⟨rfl, rfl⟩
      have t2 : decide (1000000000 < p) = false := by simpa using a2
      by_cases a3 : q < 1
      · have t3 : decide (q < 1) = true := by simpa using a3
        obtain rfl : BAD = true := by rw [← hBAD]; exact decide_eq_true (by omega)
        clear hBAD a1 a2 a3
        go_wp2_with fail
        go_meet
        exact ⟨rfl, rfl⟩
      have t3 : decide (q < 1) = false := by simpa using a3
      by_cases a4 : 1000000000 < q
      · have t4 : decide (1000000000 < q) = true := by simpa using a4
        obtain rfl : BAD = true := by rw [← hBAD]; exact decide_eq_true (by omega)
        clear hBAD a1 a2 a3 a4
        go_wp2_with fail
        go_meet
        exact ⟨rfl, rfl⟩
      have t4 : decide (1000000000 < q) = false := by simpa using a4
      obtain rfl : BAD = false := by rw [← hBAD]; exact decide_eq_false (by omega)
      clear hBAD a1 a2 a3 a4
      go_wp2_with fail
      go_meet
      exact ⟨rfl, rfl⟩
    case rest =>
    obtain ⟨rfl, hwc⟩ := hcut
    obtain ⟨W3, hW3⟩ : ∃ W3, W3 = wc := ⟨_, rfl⟩
    rw [← hW3] at hwc ⊢
    subst hwc
    clear hW3
    have HBAD := Lib.hid hBAD
    clear hBAD
    cases BAD
    case true =>
      have hb : ¬ ((1 ≤ p ∧ p ≤ 1000000000) ∧ 1 ≤ q ∧ q ≤ 1000000000) := of_decide_eq_true HBAD.out
      obtain rfl : PL = noPlan 1 := by rw [HPL.out, if_neg hb]
      have h4 := HB.out.2
      have q0 := h4.c0.cell
      have q1 := h4.c1.cell
      have q2 := h4.c2.cell
      have q3 := h4.c3.cell
      have f0 := h4.c0.free
      have f1 := h4.c1.free
      have f2 := h4.c2.free
      have f3 := h4.c3.free
      have zq := cell_lt q0
      clear HPL h4 hb
      go_wp2_with fail
      obtain ⟨O1, h4⟩ := HB.out
      obtain ⟨B', hB', p0, p1, p2, p3, hw, o⟩ := plan_ret (v := .slice none 0 0) (base := w.heap.size + 1) (n := 0) (xs := []) (Nat.le_refl _) O1 h4 (World.ownsRow_nil _ _ _ _) (by omega) (by omega) 0 0 0
      have g0 := p0.cell
      have g1 := p1.cell
      have g2 := p2.cell
      have g3 := p3.cell
      rw [← hB']
      refine bodyPost_ret (by simp [results, Try.results59, go_sem, g0, g1, g2, g3]; try rfl) rfl ?_
      exact ⟨.slice none 0 0, rfl, hw, o⟩
    case false =>
      have hb : (1 ≤ p ∧ p ≤ 1000000000) ∧ 1 ≤ q ∧ q ≤ 1000000000 := Classical.byContradiction fun h => by
        have h1 := HBAD.out
        rw [decide_eq_true h] at h1
        cases h1
      have hpl := HPL.out
      rw [if_pos hb] at hpl
      have HPX := Lib.hid hpl
      have HMX := Lib.hid (HME.out hb)
      clear hpl hb HPL HME HBAD
      go_wp2_with fail
      refine (HCP.out _ HB.out.1).mono ?_
      intro en w4 hq
      obtain ⟨r2, vv2, rfl, h2, o4, hlo⟩ := hq
      have HR := Lib.hid (HREM.out w4 r2 vv2 h2)
      have HLO := Lib.hid hlo
      have HO4 := Lib.hid o4
      clear h2 hlo o4 HCP HREM
      go_wp2_with fail
      refine HR.out.mono ?_
      intro en w5 hq
      obtain ⟨T5, rfl, ⟨vv5, h5, rfl⟩, o5, g5⟩ := hq
      have HP := Lib.hid (HPN.out w5 r2 vv5 h5 HMX.out)
      rw [← HPX.out] at HP
      have o35 : Only (fun _ => False) W3 w5 := HO4.out.trans' o5 (fun i h1 h2 => by have := HLO.out i h2; omega)
      have x1 := ((HO.out 1 _ rfl).only o35 id).cell
      have x2 := ((HO.out 2 _ rfl).only o35 id).cell
      have zx := cell_lt x1
      have HO35 := Lib.hid o35
      clear h5 o5 g5 o35 HPN HR
      go_wp2_with fail
      refine HP.out.mono ?_
      intro en w6 hp
      obtain ⟨v, rfl, hw, o6⟩ := hp
      unfold planV
      obtain ⟨sa, sc, rfl, _⟩ := own_slice hw
      obtain ⟨er, hs, tr, re, gn⟩ := PL
      simp only at hw ⊢
      have O3 := HB.out.1.trans (HO35.out.trans o6)
      have h4 := HB.out.2.keep (HO35.out.trans o6)
      have zp := (HB.out.2.keep HO35.out).c0.lt
      have HD := Lib.hid (plan_ret (Nat.le_refl _) O3 h4 hw (by omega) (by omega) tr re gn)
      have q0 := h4.c0.cell
      have q1 := h4.c1.cell
      have q2 := h4.c2.cell
      have q3 := h4.c3.cell
      have f0 := h4.c0.free
      have f1 := h4.c1.free
      have f2 := h4.c2.free
      have f3 := h4.c3.free
      have zq := cell_lt q0
      obtain ⟨n, hn⟩ : ∃ n, n = hs.length := ⟨_, rfl⟩
      rw [← hn] at HD hw ⊢
      have HN := Lib.hid hn
      clear O3 h4 o6 hw x1 x2 zx hn HP HPX
      go_wp2_with fail
      obtain ⟨B', hB', p0, p1, p2, p3, hw, o⟩ := HD.out
      have g0 := p0.cell
      have g1 := p1.cell
      have g2 := p2.cell
      have g3 := p3.cell
      rw [← hB']
      refine bodyPost_ret (by simp [results, Try.results59, go_sem, g0, g1, g2, g3]; try rfl) rfl ?_
      refine ⟨.slice sa n sc, rfl, ?_, o⟩
      show World.ownsRow _ _ _ _ _ hs.length _
      rw [← HN.out]
      exact hw
end Go.Proofs.Ytilngakgofjmpaa
