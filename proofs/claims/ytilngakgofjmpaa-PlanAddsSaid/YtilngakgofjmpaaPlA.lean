/- PlanAdds: the walk. No condition. -/
import Derived.Test.YtilngakgofjmpaaPls
namespace Go.Proofs.Ytilngakgofjmpaa
set_option linter.unusedVariables false
set_option linter.unusedSimpArgs false
open Go.RowKit Go.Shelf
open Od (OrdR)
attribute [local go_sem] Oper.semAt_some

theorem BoxP.onlyA {B base : Nat} {v : Value} {P : PlanR} {A C : World} {S : Nat → Prop} (h : BoxP B base v P A) (o : Only S A C) (hB : ¬ S B) (hr : ∀ i, v.ownBlock = some i → ¬ S i) : BoxP B base v P C := ⟨h.c0.only o hB, h.c1.only o hB, h.c2.only o hB, h.c3.only o hB, ownsRow_apart h.own o hr⟩
/-- A plan that is told: what it is. -/
theorem planC_cases {most room : Nat} {l : Bool → List OrdR} (g : Good most room l) (e : EnR) :
    (∃ er, er ≠ 0 ∧ planC most room l e = noPlan er) ∨
    (mayE e = true ∧ ∃ re go, planC most room l e = ⟨0, meet e.c e.q (facO l e.s e.p), e.q - leftM e.c e.q (facO l e.s e.p), re, go⟩ ∧
      ((re = leftM e.c e.q (facO l e.s e.p) ∧ go = 0 ∧ (e.k = 1 ∨ e.k = 5)) ∨ (re = 0 ∧ go = leftM e.c e.q (facO l e.s e.p) ∧ e.k ≠ 1 ∧ e.k ≠ 5)) ∧ (e.k = 4 → leftM e.c e.q (facO l e.s e.p) = 0) ∧ (e.k = 5 → facO l e.s e.p = [])) := by
  by_cases hm : mayE e = true
  · have hq : 1 ≤ e.q ∧ e.q ≤ 1000000000 := (mayE_parts hm).2.2.2.2
    have hok : ∀ x ∈ facO l e.s e.p, 1 ≤ x.q := fun x hx => by
      obtain ⟨q, hq⟩ := facO_mem hx
      exact (g.ok q x hq).2.2.2.2.2.2.1
    unfold planC
    rw [if_pos hm]
    unfold planR
    by_cases h5 : e.k = 5 ∧ facO l e.s e.p ≠ []
    · rw [if_pos h5]; exact .inl ⟨80, by decide, rfl⟩
    · rw [if_neg h5]
      by_cases h4 : e.k = 4 ∧ lotsO e.c (facO l e.s e.p) < e.q
      · rw [if_pos h4]; exact .inl ⟨81, by decide, rfl⟩
      · rw [if_neg h4]
        have hx4 : e.k = 4 → leftM e.c e.q (facO l e.s e.p) = 0 := fun hk => by
          rw [leftM_lots (by omega) hok]
          have : ¬ lotsO e.c (facO l e.s e.p) < e.q := fun h => h4 ⟨hk, h⟩
          omega
        have hx5 : e.k = 5 → facO l e.s e.p = [] := fun hk => Classical.byContradiction fun h => h5 ⟨hk, h⟩
        by_cases h1 : e.k = 1 ∨ e.k = 5
        · rw [if_pos h1]
          split
          · rename_i hf
            exact .inl ⟨_, hf.2, rfl⟩
          · exact .inr ⟨hm, _, _, rfl, .inl ⟨rfl, rfl, h1⟩, hx4, hx5⟩
        · rw [if_neg h1]
          exact .inr ⟨hm, _, _, rfl, .inr ⟨rfl, rfl, by omega, by omega⟩, hx4, hx5⟩
  · exact .inl ⟨1, by decide, by unfold planC; rw [if_neg hm]⟩

/-- Seen so far. -/
structure AdI (W : World) (kb lb rb : Nat) (c q : Int) (m : Nat) (s : List OrdR) (T : Nat → Prop) (A : World) : Prop where
  t : T = fun i => i = kb ∨ i = lb ∨ i = rb
  ck : Cell A kb 0 (.int .i64 (s.length : Nat))
  cl : Cell A lb 0 (.int .i64 (leftM c q s))
  cr : Cell A rb 0 (.bool false)
  len : s.length ≤ m
  only : Only (fun i => i = kb ∨ i = lb ∨ i = rb) W A
structure AdX (W : World) (kb lb rb : Nat) (k : Code) (s : List OrdR) (T : Nat → Prop) (A : World) : Prop where
  k : k = .ret
  t : T = fun i => i = kb ∨ i = lb ∨ i = rb
  cr : Cell A rb 0 (.bool true)
  only : Only (fun i => i = kb ∨ i = lb ∨ i = rb) W A

set_option maxRecDepth 100000 in
set_option maxHeartbeats 4000000 in
theorem planAdds_no (w : World) (x0 : Int) (h : x0 < 0 ∨ 128 < x0) (a : Option Addr) (len cap : Nat) (e : EnR) :
    Calls Try.prog 10 #[.int .i64 x0, .slice a len cap, enV e] w fun e w' => e = .returned (.bool true) ∧ Only (fun _ => False) w w' := by
  obtain ⟨ec, ek, es, ep, eq⟩ := e
  unfold enV
  simp only
  have HRB := Lib.hid (show Cell ((w.alloc (.cells #[.int .i64 ec, .int .u8 ek, .int .u8 es, .int .i64 ep, .int .i64 eq] 111)).alloc (.cells #[.bool false] 4)) (w.heap.size + 1) 0 (.bool false) from by
    have := Cell.new (w := w.alloc (.cells #[.int .i64 ec, .int .u8 ek, .int .u8 es, .int .i64 ep, .int .i64 eq] 111)) (cs := #[.bool false]) (t := 4) (o := 0) rfl
    rwa [World.size_alloc] at this)
  have HOA := Lib.hid (show Only (fun _ => False) w ((w.alloc (.cells #[.int .i64 ec, .int .u8 ek, .int .u8 es, .int .i64 ep, .int .i64 eq] 111)).alloc (.cells #[.bool false] 4)) from ((Only.refl _ _).alloc _).alloc _)
  have hc : decide (x0 < 0) = true ∨ (decide (x0 < 0) = false ∧ decide (128 < x0) = true) := by
    by_cases h0 : x0 < 0
    · exact .inl (by simpa using h0)
    · exact .inr ⟨by simpa using h0, by simp; omega⟩
  clear h
  refine callsIn_wide.1 (callsIn_of_wp_marks (n := 0) Try.func10 rfl trivial (wpIn_wide.2 ?_) rfl)
  simp only [Try.ntmps10, List.size_toArray, List.length_cons, List.length_nil, Nat.reduceAdd, Nat.reduceSub, Array.replicate_succ, Array.replicate_zero, List.push_toArray, List.append_toArray, List.nil_append, List.cons_append]
  go_wp2_with fail
  refine (pworks_walk _).mono ?_
  rintro en w1 ⟨rfl, o1⟩
  have r1 := HRB.out.only o1 id
  have HR1 := Lib.hid r1
  have HO1 := Lib.hid (HOA.out.trans o1)
  have qr := r1.cell
  have fr := r1.free
  have zr := cell_lt qr
  have hNr : w.heap.size ≤ w.heap.size + 1 := by omega
  clear o1 r1 HOA HRB
  rcases hc with t1 | ⟨t1, t2⟩
  all_goals (
    go_wp2_with fail
    have oS := ((Only.refl (· = w.heap.size + 1) w1).setCell (p := ⟨w.heap.size + 1, 0, none⟩) (.inl rfl) (.bool true)).alloc (.cells #[.bool true] 4)
    refine leaves_marks [] _ (by simp) (fun E hE => by cases hE) (fun w' ho' => ?_)
    have g6 := (((HR1.out.set (.bool true)).alloc (.cells #[.bool true] 4)).only ho' (fun h => nomatch h)).cell
    refine ⟨.bool true, by simp [results, Try.results10, go_sem, g6], rfl, ?_⟩
    exact (HO1.out.trans' oS (fun i h1 h2 => by omega)).trans' ho' (fun i h1 h2 => nomatch h2))

set_option maxRecDepth 100000 in
set_option maxHeartbeats 16000000 in
theorem planAdds_yes (w : World) (most : Nat) (hm : most ≤ 128) (a : Option Addr) (cap : Nat) (L : List OrdR) (hL : OrdIn w a L) (hwf : ∀ o ∈ L, Wf o.i) (hl : L.length ≤ 1000000000000000) (e : EnR) :
    Calls Try.prog 10 #[.int .i64 (most : Nat), .slice a L.length cap, enV e] w fun e w' => e = .returned (.bool true) ∧ Only (fun _ => False) w w' := by
  have HLD := Lib.hid fun W (o : Only (fun _ => False) w W) => (show Calls Try.prog 52 #[.int .i64 256, .int .i64 (most : Nat), .slice a L.length cap] W (LaidPost W most 256 L) from k_laid W 256 most (by decide) hm L a cap (hL.only o (fun _ _ => id)) hwf hl)
  have t1 : decide ((most : Int) < 0) = false := by simp
  have t2 : decide (128 < most) = false := by simp; omega
  have t2' : decide ((128 : Int) < (most : Int)) = false := by simp; omega
  obtain ⟨len, hlen⟩ : ∃ len, len = L.length := ⟨_, rfl⟩
  rw [← hlen] at HLD ⊢
  obtain ⟨ec, ek, es, ep, eq⟩ := e
  unfold enV
  simp only
  clear hL hwf hl hlen hm
  refine callsIn_wide.1 (callsIn_of_wp_marks (n := 0) Try.func10 rfl trivial (wpIn_wide.2 ?_) rfl)
  simp only [Try.ntmps10, List.size_toArray, List.length_cons, List.length_nil, Nat.reduceAdd, Nat.reduceSub, Array.replicate_succ, Array.replicate_zero, List.push_toArray, List.append_toArray, List.nil_append, List.cons_append]
  go_upto_region 1 with fail
  obtain ⟨W0, hW0⟩ : ∃ W0, (w.alloc (.cells #[.int .i64 ec, .int .u8 ek, .int .u8 es, .int .i64 ep, .int .i64 eq] 111)).alloc (.cells #[.bool false] 4) = W0 := ⟨_, rfl⟩
  obtain ⟨N0, hN0⟩ : ∃ N0, w.heap.size = N0 := ⟨_, rfl⟩
  have o0 : Only (fun _ => False) w W0 := by rw [← hW0]; exact ((Only.refl _ w).alloc _).alloc _
  have hE : ∀ (o : Nat) (v : Value), (#[.int .i64 ec, .int .u8 ek, .int .u8 es, .int .i64 ep, .int .i64 eq] : Array Value)[o]? = some v → Cell W0 N0 o v := fun o v hv => by rw [← hW0, ← hN0]; exact (Cell.new hv).alloc _
  have hR : Cell W0 (N0 + 1) 0 (.bool false) := by
    have := Cell.new (w := w.alloc (.cells #[.int .i64 ec, .int .u8 ek, .int .u8 es, .int .i64 ep, .int .i64 eq] 111)) (cs := #[.bool false]) (t := 4) (o := 0) rfl
    rwa [World.size_alloc, hW0, hN0] at this
  rw [hW0]
  simp only [hN0]
  have HN0 := Lib.hid hN0
  have H0 := Lib.hid (⟨o0, hE, hR⟩ : _ ∧ _ ∧ _)
  have zR := hR.lt
  clear hW0 hN0 o0 hE hR
  go_wp2_with fail
  refine (pworks_walk _).mono ?_
  rintro en w1 ⟨rfl, o1⟩
  have hz1 := o1.size
  obtain ⟨bf, hbf⟩ : ∃ bf, w1.heap.size = bf := ⟨_, rfl⟩
  obtain ⟨W2, hW2⟩ : ∃ W2, w1.alloc (.cells #[.bool true] 4) = W2 := ⟨_, rfl⟩
  have o12 : Only (fun _ => False) w1 W2 := by rw [← hW2]; exact (Only.refl _ _).alloc _
  have hF : Cell W2 bf 0 (.bool true) := by rw [← hW2, ← hbf]; exact Cell.new rfl
  have zF := hF.lt
  have o02 : Only (fun _ => False) W0 W2 := o1.trans o12
  have HF := Lib.hid hF
  have H02 := Lib.hid o02
  have hbfN : N0 + 1 < bf := by omega
  clear o1 o12 hF o02
  go_upto_region 2 with fail
  try rw [hW2]
  try simp only [hbf]
  clear hW2 hbf
  go_wp2_with fail
  refine (HLD.out _ (H0.out.1.trans H02.out)).mono ?_
  intro en w3 hq
  obtain ⟨b, r, T, T6, rfl, hBP⟩ := hq
  have hgd := hBP.bk.good
  have o23 := hBP.only
  have hTlo : ∀ i, T i → W2.heap.size ≤ i := fun i hi => (hBP.lo i hi).1
  have hTlt := hBP.bk.lt
  obtain ⟨l, hl⟩ : ∃ l, l = laidL most 256 L := ⟨_, rfl⟩
  rw [← hl] at hBP hgd
  have HBK := Lib.hid hBP.bk
  have HGD := Lib.hid hgd
  have HO3 := Lib.hid ((H0.out.1.trans H02.out).trans o23)
  have o03 := H02.out.trans o23
  have HE3 := Lib.hid fun W (o : Only (fun _ => False) w3 W) (j : Nat) (v : Value) (hv : (#[.int .i64 ec, .int .u8 ek, .int .u8 es, .int .i64 ep, .int .i64 eq] : Array Value)[j]? = some v) => ((H0.out.2.1 j v hv).only o03 id).only o id
  have HR3 := Lib.hid (H0.out.2.2.only o03 id)
  have HF3 := Lib.hid (HF.out.only o23 id)
  have hz3 := o23.size
  have HCALL := Lib.hid (k_Of hBP.bk ⟨ec, ek, es, ep, eq⟩)
  unfold enV at HCALL
  simp only at HCALL
  have hpc := planC_cases hgd ⟨ec, ek, es, ep, eq⟩
  simp only at hpc
  have y0 := (HE3.out w3 (Only.refl _ _) 0 _ rfl).cell
  have y1 := (HE3.out w3 (Only.refl _ _) 1 _ rfl).cell
  have y2 := (HE3.out w3 (Only.refl _ _) 2 _ rfl).cell
  have y3 := (HE3.out w3 (Only.refl _ _) 3 _ rfl).cell
  have y4 := (HE3.out w3 (Only.refl _ _) 4 _ rfl).cell
  have zy := cell_lt y0
  clear hBP hgd hl HLD o23 o03 H02 H0 HF
  rcases hpc with ⟨er, hne, hpl⟩ | ⟨hmay, re, go, hpl, hrg, hk4, hk5⟩
  · rw [hpl] at HCALL
    have u0 : (er != 0) = true := by simpa using hne
    clear hpl hne
    go_wp2_with fail
    refine HCALL.out.mono ?_
    intro en w4 hq
    obtain ⟨v4, rfl, hv4, o4⟩ := hq
    unfold planV noPlan
    obtain ⟨a4, c4, rfl, _⟩ := own_slice hv4
    simp only [List.length_nil]
    have r4 := HR3.out.only o4 id
    have f4 := HF3.out.only o4 id
    have HO4 := Lib.hid (HO3.out.trans o4)
    have HR4 := Lib.hid r4
    have qr := (HR3.out.only o4 id).cell
    have fr := r4.free
    have qf := (HF3.out.only o4 id).cell
    have zr := cell_lt qr
    have zf := cell_lt qf
    clear hv4 y0 y1 y2 y3 y4 zy HCALL r4 f4 o4
    go_wp2_with fail
    have oS := ((Only.refl (· = N0 + 1) w4).setCell (p := ⟨N0 + 1, 0, none⟩) (.inl rfl) (.bool true)).alloc (.cells #[.slice a4 0 c4, .int .i64 0, .int .i64 0, .int .i64 0] 104)
    refine leaves_marks [] _ (by simp) (fun E hE => by cases hE) (fun w' ho' => ?_)
    have g6 := (((HR4.out.set (.bool true)).alloc (.cells #[.slice a4 0 c4, .int .i64 0, .int .i64 0, .int .i64 0] 104)).only ho' (fun h => nomatch h)).cell
    refine ⟨.bool true, by simp [results, Try.results10, go_sem, g6], rfl, ?_⟩
    have hN := HN0.out
    exact (HO4.out.trans' oS (fun i h1 h2 => by omega)).trans' ho' (fun i h1 h2 => nomatch h2)
  · obtain ⟨F, hF⟩ : ∃ F, F = facO l es ep := ⟨_, rfl⟩
    rw [← hF] at hpl hrg hk4 hk5
    obtain ⟨lf, hlf⟩ : ∃ lf, lf = leftM ec eq F := ⟨_, rfl⟩
    rw [← hlf] at hpl hrg hk4
    obtain ⟨tr, htr⟩ : ∃ tr, tr = eq - lf := ⟨_, rfl⟩
    rw [← htr] at hpl
    obtain ⟨M, hM⟩ : ∃ M, M = meet ec eq F := ⟨_, rfl⟩
    rw [← hM] at hpl
    obtain ⟨m, hm⟩ : ∃ m, m = M.length := ⟨_, rfl⟩
    have hq0 : 1 ≤ eq ∧ eq ≤ 1000000000 := (mayE_parts hmay).2.2.2.2
    have hkk : 1 ≤ ek ∧ ek ≤ 5 := (mayE_parts hmay).1
    have hokF : ∀ x ∈ F, 1 ≤ x.q ∧ x.q ≤ 1000000000 := fun x hx => by
      rw [hF] at hx
      obtain ⟨q, hq⟩ := facO_mem hx
      exact (HGD.out.ok q x hq).2.2.2.2.2.2
    have hFl : F.length ≤ 256 := by
      have h1 := facO_len l es ep
      have h2 := HGD.out.len
      rw [hF]; omega
    have hlfb := leftM_bd (c := ec) (L := F) (left := eq) (by omega) (fun x hx => (hokF x hx).1)
    rw [← hlf] at hlfb
    have hml := meet_len ec F eq
    rw [← hM, ← hm] at hml
    have hm5 : ek = 5 → m = 0 := fun h => by rw [hm, hM, hk5 h]; rfl
    rw [hpl] at HCALL
    have HV := Lib.hid (⟨hF, hlf, htr, hM, hm⟩ : _ ∧ _ ∧ _ ∧ _ ∧ _)
    have HOKF := Lib.hid hokF
    clear hpl hF hlf htr hM hm hokF hk5 hmay
    have htb : 0 ≤ tr ∧ tr ≤ eq := by have := HV.out.2.2.1; omega
    have hte : tr + lf = eq := by have := HV.out.2.2.1; omega
    go_wp2_with fail
    refine HCALL.out.mono ?_
    intro en w4 hq
    obtain ⟨v4, rfl, hv4, o4⟩ := hq
    unfold planV
    obtain ⟨a4, c4, rfl, _⟩ := own_slice hv4
    simp only at hv4 ⊢
    have B4 := Lib.hid (BoxP.new (P := ⟨0, M, tr, re, go⟩) hv4)
    rw [show (PlanR.mk 0 M tr re go).hits.length = m from HV.out.2.2.2.2.symm] at B4
    rw [← HV.out.2.2.2.2]
    obtain ⟨W5, hW5⟩ : ∃ W5, w4.alloc (.cells #[.slice a4 m c4, .int .i64 tr, .int .i64 re, .int .i64 go] 104) = W5 := ⟨_, rfl⟩
    obtain ⟨b4, hb4⟩ : ∃ b4, w4.heap.size = b4 := ⟨_, rfl⟩
    have o35 : Only (fun _ => False) w3 W5 := by rw [← hW5]; exact o4.alloc _
    have hz5 : W5.heap.size = b4 + 1 := by rw [← hW5, ← hb4]; simp
    have B4 := Lib.hid (show BoxP b4 w3.heap.size (.slice a4 m c4) ⟨0, M, tr, re, go⟩ W5 from by
      rw [← hW5, ← hb4]
      exact B4.out)
    have hb3 : w3.heap.size ≤ b4 := by have := o4.size; omega
    have HO35 := Lib.hid o35
    have HZ5 := Lib.hid hz5
    clear hz5 hv4 o4 o35 y0 y1 y2 y3 y4 zy HCALL
    go_upto_region 10 with fail
    try rw [hW5]
    try simp only [hb4]
    clear hW5 hb4
    have y4 := (HE3.out W5 HO35.out 4 _ rfl).cell
    have y1 := (HE3.out W5 HO35.out 1 _ rfl).cell
    have zy := cell_lt y4
    have e1 := B4.out.c1.cell
    have e2 := B4.out.c2.cell
    have e3 := B4.out.c3.cell
    have e0 := B4.out.c0.cell
    simp only at e1 e2 e3
    have ze := cell_lt e0
    go_cut [98] from 63 to 98 (fun s98 wx => s98 = .bool false ∧ wx = W5)
    case first =>
      have s1 : decide (tr < 0) = false := by simp; omega
      rcases hrg with ⟨rfl, rfl, _⟩ | ⟨rfl, rfl, _⟩
      · have s2 : decide (re < 0) = false := by simp; omega
        have ww1 : IntKind.i64.wrap (tr + re) = eq := by rw [IntKind.wrap_i64]; omega
        have ww2 : IntKind.i64.wrap (eq + 0) = eq := by rw [IntKind.wrap_i64]; omega
        have s3 : (eq != eq) = false := by simp
        have HX := Lib.hid (⟨hlfb, htb, hte⟩ : _ ∧ _ ∧ _)
        clear hlfb htb hte hk4
        by_cases hp : 0 < re
        · have s4 : decide (0 < re) = true := by simpa using hp
          clear hp
          go_wp2_with fail
          go_meet
          exact ⟨rfl, rfl⟩
        · have s4 : decide (0 < re) = false := by simpa using hp
          clear hp
          go_wp2_with fail
          go_meet
          exact ⟨rfl, rfl⟩
      · have s2 : decide (go < 0) = false := by simp; omega
        have ww0 : IntKind.i64.wrap (tr + 0) = tr := by rw [IntKind.wrap_i64]; omega
        have ww0' : IntKind.i64.wrap tr = tr := by rw [IntKind.wrap_i64]; omega
        have ww1 : IntKind.i64.wrap (tr + go) = eq := by rw [IntKind.wrap_i64]; omega
        have s3 : (eq != eq) = false := by simp
        have HX := Lib.hid (⟨hlfb, htb, hte⟩ : _ ∧ _ ∧ _)
        clear hlfb htb hte hk4
        go_wp2_with fail
        go_meet
        exact ⟨rfl, rfl⟩
    case rest =>
    obtain ⟨rfl, hwc⟩ := hcut
    obtain ⟨W6, hW6⟩ : ∃ W6, W6 = wc := ⟨_, rfl⟩
    rw [← hW6] at hwc ⊢
    subst hwc
    clear hW6
    obtain ⟨k1, hk1⟩ : ∃ k1, (ek == 1) = k1 := ⟨_, rfl⟩
    obtain ⟨k5, hk5⟩ : ∃ k5, (ek == 5) = k5 := ⟨_, rfl⟩
    obtain ⟨k4, hk4'⟩ : ∃ k4, (ek == 4) = k4 := ⟨_, rfl⟩
    have HKS := Lib.hid (⟨hk1, hk5, hk4'⟩ : _ ∧ _ ∧ _)
    clear hk1 hk5 hk4'
    go_upto_region 12 with fail
    go_cut [12] from 99 to 106 (fun s12 wx => s12 = .bool (k1 || k5) ∧ wx = W6)
    case first =>
      obtain ⟨hk1, hk5, hk4'⟩ := HKS.out
      cases k1
      · cases k5
        · go_wp2_with fail
          go_meet
          exact ⟨rfl, rfl⟩
        · go_wp2_with fail
          go_meet
          exact ⟨rfl, rfl⟩
      · go_wp2_with fail
        go_meet
        exact ⟨rfl, rfl⟩
    case rest =>
    obtain ⟨rfl, hwc⟩ := hcut
    obtain ⟨W7, hW7⟩ : ∃ W7, W7 = wc := ⟨_, rfl⟩
    rw [← hW7] at hwc ⊢
    subst hwc
    clear hW7
    obtain ⟨kk, hkk'⟩ : ∃ kk, (k1 || k5) = kk := ⟨_, rfl⟩
    rw [hkk']
    have HKK := Lib.hid hkk'
    clear hkk'
    go_upto_region 13 with fail
    go_cut [144] from 107 to 144 (fun s144 wx => s144 = .bool false ∧ wx = W7)
    case first =>
      obtain ⟨hk1, hk5, hk4'⟩ := HKS.out
      have hkv := HKK.out
      clear HKS HKK
      rcases hrg with ⟨rfl, rfl, hk⟩ | ⟨rfl, rfl, hka, hkb⟩
      · rcases hk with rfl | rfl
        · obtain rfl : k1 = true := hk1.symm
          obtain rfl : k5 = false := hk5.symm
          obtain rfl : k4 = false := hk4'.symm
          obtain rfl : kk = true := hkv.symm
          clear hk1 hk5 hk4' hkv hk4 hm5 hkk
          go_wp2_with fail
          go_meet
          exact ⟨rfl, rfl⟩
        · obtain rfl : k1 = false := hk1.symm
          obtain rfl : k5 = true := hk5.symm
          obtain rfl : k4 = false := hk4'.symm
          obtain rfl : kk = true := hkv.symm
          have hm0 := hm5 rfl
          have v1 : decide (0 < m) = false := by simp; omega
          have v1' : decide ((0 : Int) < (m : Int)) = false := by simp; omega
          clear hk1 hk5 hk4' hkv hk4 hm5 hkk hm0
          go_wp2_with fail
          go_meet
          exact ⟨rfl, rfl⟩
      · have hx1 : (ek == 1) = false := by simpa using hka
        have hx5 : (ek == 5) = false := by simpa using hkb
        rw [hx1] at hk1
        rw [hx5] at hk5
        obtain rfl : k1 = false := hk1.symm
        obtain rfl : k5 = false := hk5.symm
        obtain rfl : kk = false := hkv.symm
        by_cases hx4 : ek = 4
        · have hlf0 := hk4 hx4
          have v1 : (tr != eq) = false := by simp; omega
          subst hx4
          obtain rfl : k4 = true := hk4'.symm
          have HQ := Lib.hid (⟨htb, hte, hlfb, hlf0⟩ : _ ∧ _ ∧ _ ∧ _)
          clear hk1 hk5 hk4' hkv hk4 hm5 hkk hka hkb hx1 hx5 htb hte hlfb hlf0
          go_wp2_with fail
          go_meet
          exact ⟨rfl, rfl⟩
        · have hx4' : (ek == 4) = false := by simpa using hx4
          rw [hx4'] at hk4'
          obtain rfl : k4 = false := hk4'.symm
          clear hk1 hk5 hk4' hkv hk4 hm5 hkk hka hkb hx4
          go_wp2_with fail
          go_meet
          exact ⟨rfl, rfl⟩
    case rest =>
    obtain ⟨rfl, hwc⟩ := hcut
    obtain ⟨W8, hW8⟩ : ∃ W8, W8 = wc := ⟨_, rfl⟩
    rw [← hW8] at hwc ⊢
    subst hwc
    clear hW8 HKS HKK hk4 hm5 hkk
    have hrg' : re + go = lf := by rcases hrg with ⟨h1, h2, _⟩ | ⟨h1, h2, _⟩ <;> omega
    clear hrg
    obtain ⟨kb, hkb⟩ : ∃ kb, W8.heap.size = kb := ⟨_, rfl⟩
    obtain ⟨W9, hW9⟩ : ∃ W9, (W8.alloc (.cells #[.int .i64 0] 3)).alloc (.cells #[.int .i64 eq] 2) = W9 := ⟨_, rfl⟩
    have HKZ := Lib.hid hkb
    have o89 : Only (fun _ => False) W8 W9 := by rw [← hW9]; exact ((Only.refl _ _).alloc _).alloc _
    have ck9 : Cell W9 kb 0 (.int .i64 0) := by rw [← hW9, ← hkb]; exact (Cell.new rfl).alloc _
    have cl9 : Cell W9 (kb + 1) 0 (.int .i64 eq) := by
      have := Cell.new (w := W8.alloc (.cells #[.int .i64 0] 3)) (cs := #[.int .i64 eq]) (t := 2) (o := 0) rfl
      rwa [World.size_alloc, hkb, hW9] at this
    have hzb : b4 < kb := by have := HZ5.out; omega
    have hzk : N0 < kb := by omega
    have HO39 := Lib.hid (HO35.out.trans o89)
    have y2 := (HE3.out W9 (HO35.out.trans o89) 2 _ rfl).cell
    have y3 := (HE3.out W9 (HO35.out.trans o89) 3 _ rfl).cell
    have zy' := cell_lt y2
    have B9 := Lib.hid (B4.out.keep o89)
    have HC9 := Lib.hid (⟨ck9, cl9⟩ : _ ∧ _)
    have hz9 := cl9.lt
    clear e0 e1 e2 e3 ze o89 ck9 cl9 y1
    go_upto_region 17 with fail
    try rw [hW9]
    try simp only [hkb]
    clear hW9 hkb y4 zy
    go_wp2_with fail
    refine (k_facing _ b es ep).mono ?_
    intro en Wc hp
    obtain ⟨Bs, Bb, Bl, rfl, oc, cs, cb, cl, gs, gb, gl'⟩ := hp
    have hszc := oc.size
    have O3c := HO39.out.trans oc
    have HSEQ := Lib.hid (bk_fac_iter (HBK.out.only O3c (fun _ _ => id)) es ep cs cb cl)
    rw [← HV.out.1] at HSEQ
    have HKB := Lib.hid (⟨cs.lt, cb.lt, cl.lt⟩ : _ ∧ _ ∧ _)
    have HBc := Lib.hid (B9.out.keep oc)
    have HCc := Lib.hid (show Cell Wc kb 0 (.int .i64 0) ∧ Cell Wc (kb + 1) 0 (.int .i64 eq) ∧ Cell Wc (N0 + 1) 0 (.bool false) ∧ Cell Wc bf 0 (.bool true) ∧ Cell Wc N0 0 (.int .i64 ec) from ⟨HC9.out.1.only oc id, HC9.out.2.only oc id, HR3.out.only O3c id, HF3.out.only O3c id, HE3.out Wc O3c 0 _ rfl⟩)
    have HOc := Lib.hid (HO3.out.trans O3c)
    clear cs cb cl oc O3c y2 y3 zy' HC9 B9 HR3 HF3
    go_wp2_with fail
    refine (wpIn_wide (n := 0)).1 ?_
    refine rangeT (gf := 140) (lb := #[.pointer (some ⟨Bs, 0, none⟩), .pointer (some ⟨Bb, 0, none⟩), .pointer (some ⟨Bl, 0, none⟩)]) rfl (enters_of Try.func140 (by kernel_rfl) rfl)
      HSEQ.out (fun _ => rfl) (Nat.le_refl _) (KeepB.refl _ _) ?hK
      (AdI Wc kb (kb + 1) (N0 + 1) ec eq m) (AdX Wc kb (kb + 1) (N0 + 1)) (fun i => i = kb ∨ i = kb + 1 ∨ i = N0 + 1) ?hT ?hI ?hIx ⟨rfl, HCc.out.1, HCc.out.2.1, HCc.out.2.2.1, Nat.zero_le _, Only.refl _ _⟩ ?round ?done ?stop
    case hK =>
      rintro i (hi | rfl | rfl | rfl)
      · have := hTlt i hi; omega
      · exact HKB.out.1
      · exact HKB.out.2.1
      · exact HKB.out.2.2
    case hT =>
      rintro s T' A ⟨rfl, ck, cl, cr, _, _⟩ i hi
      have hlt : i < A.heap.size := by
        rcases hi with rfl | rfl | rfl
        · exact ck.lt
        · exact cl.lt
        · exact cr.lt
      refine ⟨?_, hlt⟩
      have h3 := HKB.out
      rintro (hk | hk | hk | hk)
      · have h1 := hTlt i hk
        have h2 := hTlo i hk
        omega
      all_goals omega
    case hI =>
      rintro s T' A B S ⟨rfl, ck, cl, cr, hl, ho⟩ hAB hS
      exact ⟨rfl, ck.only hAB (fun h => (hS _ h).1 (.inl rfl)), cl.only hAB (fun h => (hS _ h).1 (.inr (.inl rfl))), cr.only hAB (fun h => (hS _ h).1 (.inr (.inr rfl))), hl, ho.trans' hAB (fun i h1 h2 => by have := (hS i h2).2; omega)⟩
    case hIx =>
      rintro c s T' A B S ⟨hc, rfl, cr, ho⟩ hAB hS
      exact ⟨hc, rfl, cr.only hAB (fun h => (hS _ h).1 (.inr (.inr rfl))), ho.trans' hAB (fun i h1 h2 => by have := (hS i h2).2; omega)⟩
    case round =>
      intro l1 s T' x A hl1 hszA hrec hTl hi hpre
      have hat := pre_at hpre
      have hs : F.take s.length = s := (List.prefix_iff_eq_take.1 ((List.prefix_append s [x]).trans hpre)).symm
      have hmt := meet_at (c := ec) (left := eq) hat
      rw [hs, ← HV.out.2.2.2.1] at hmt
      have hxq := HOKF.out x (List.mem_of_getElem? hat)
      have hlb := leftM_bd (c := ec) (L := s) (left := eq) (by omega) (fun y hy => (HOKF.out y (hpre.subset (List.mem_append.2 (.inl hy)))).1)
      have hsn := fun (h : leftM ec eq s ≠ 0) => (meet_snoc (c := ec) (q := eq) (s := s) (x := x) h).2.1
      obtain ⟨oi, oc, os, op, oq⟩ := x
      unfold encO ordV
      gi_wp2
      refine ⟨(Only.refl _ A).alloc _, fun A1 hi1 o1 => ?_⟩
      intro r1
      try intro hr1
      have hlA : l1 < A.heap.size := by obtain ⟨r, hr⟩ := hrec; exact (Array.getElem?_eq_some_iff.1 hr).1
      have h5 := (Five.new A (.int .i64 oi) (.int .i64 oc) (.int .u8 os) (.int .i64 op) (.int .i64 oq) 54).only o1 (show ¬ A.heap.size = l1 by omega)
      have d1 := h5.c0.cell
      have d2 := h5.c1.cell
      have d3 := h5.c2.cell
      have d4 := h5.c3.cell
      have d5 := h5.c4.cell
      have zd := cell_lt d1
      obtain ⟨rfl, ck, cl, cr, hl, ho⟩ := hi1
      have hB := HBc.out.onlyA ho (by omega) (fun i hi => by have := (HBc.out.own.lt i hi); have h2 := B4.out.own.lt i hi; have h3 := HKZ.out; omega)
      have e0 := hB.c0.cell
      have ze := cell_lt e0
      have qf := (HCc.out.2.2.2.1.only ho (by omega)).cell
      have zf := cell_lt qf
      have qe := (HCc.out.2.2.2.2.only ho (by omega)).cell
      have zqe := cell_lt qe
      obtain ⟨lf0, hlf0⟩ : ∃ lf0, lf0 = leftM ec eq s := ⟨_, rfl⟩
      rw [← hlf0] at cl hmt hlb hsn
      obtain ⟨j, hj⟩ : ∃ j, j = s.length := ⟨_, rfl⟩
      rw [← hj] at ck hmt hl
      have qk := ck.cell
      have ql := cl.cell
      have qr := cr.cell
      have rk := ck.free
      have rl := cl.free
      have rr := cr.free
      have zk := cell_lt qk
      have zl := cell_lt ql
      have zr := cell_lt qr
      have HS := Lib.hid (⟨hj, hlf0⟩ : _ ∧ _)
      have HK := Lib.hid (⟨ck, cl, cr, ho⟩ : _ ∧ _ ∧ _ ∧ _)
      have hn1 : ¬ kb = kb + 1 ∧ ¬ kb = N0 + 1 ∧ ¬ kb + 1 = N0 + 1 := by omega
      by_cases hge : m ≤ j
      · have hz0 : lf0 = 0 := Classical.byContradiction fun h => by
          have h1 := (List.getElem?_eq_some_iff.1 (hmt.1 h)).1
          rw [← HV.out.2.2.2.2] at h1
          omega
        have v1 : decide (m ≤ j) = true := by simpa using hge
        have v1' : decide ((m : Int) ≤ (j : Int)) = true := by simp; omega
        have v2 : (lf0 == 0) = true := by simpa using hz0
        clear hi hmt hsn hlb hl h5 o1 hrec hpre ck cl cr ho hB hs hat hj hlf0 hge hz0
        gi_wp2
        obtain ⟨ck, cl, cr, ho⟩ := HK.out
        have oS := (Only.refl (fun i => i = kb ∨ i = kb + 1 ∨ i = N0 + 1) A1).setCell (p := ⟨N0 + 1, 0, none⟩) (.inl (.inr (.inr rfl))) (.bool true)
        exact ⟨_, ⟨oS, fun i hi => .inl hi⟩, ⟨rfl, rfl, cr.set _, ho.trans oS⟩⟩
      · have hnz : lf0 ≠ 0 := fun h => by
          have h1 := hmt.2 h
          rw [← HV.out.2.2.2.2] at h1
          omega
        have hMj := hmt.1 hnz
        have v1 : decide (m ≤ j) = false := by simpa using hge
        have v1' : decide ((m : Int) ≤ (j : Int)) = false := by simp; omega
        have v2 : (lf0 == 0) = false := by simpa using hnz
        have i1 : (0 : Int) ≤ (j : Int) ∧ (j : Int) < (m : Int) := by omega
        have i2 : decide (j < m) = true := by simp; omega
        have ww1 : IntKind.i64.wrap ((j : Int) + 1) = (j : Int) + 1 := by rw [IntKind.wrap_i64]; omega
        have hHat : HitAt A1 a4 M := HitAt.of_slice (cap := c4) (by
          have h1 := hB.own
          simp only at h1
          rw [HV.out.2.2.2.2] at h1
          exact h1)
        obtain ⟨gh, of_, rfl, hgh, b0, b1, b2, b3⟩ := hHat j _ hMj
        have HSN := Lib.hid (hsn hnz)
        have s1 : (oi != oi) = false := by simp
        have s2 : (op != op) = false := by simp
        have hxq' : 1 ≤ oq ∧ oq ≤ 1000000000 := hxq
        have HJ := Lib.hid (show j + 1 ≤ m by omega)
        by_cases hc : oc = ec
        · have e1 : hitOf ec lf0 ⟨oi, oc, os, op, oq⟩ = ⟨oi, op, oq, true⟩ := by unfold hitOf; rw [if_pos hc]
          have e2 : leftOf ec lf0 ⟨oi, oc, os, op, oq⟩ = lf0 := by unfold leftOf; rw [if_pos hc]
          rw [e1] at b0 b1 b2 b3
          simp only at b0 b1 b2 b3
          have HE2 := Lib.hid e2
          have s3 : (oc == ec) = true := by simpa using hc
          have s4 : (oq != oq) = false := by simp
          clear hi hmt hsn hlb hl h5 o1 hrec hpre ck cl cr ho hB hs hat hj hlf0 hge hnz hMj hHat hc e1 e2 hxq
          gi_wp2
          obtain ⟨ck, cl, cr, ho⟩ := HK.out
          have oS := ((Only.refl (fun i => i = kb ∨ i = kb + 1 ∨ i = N0 + 1) A1).setCell (p := ⟨kb, 0, none⟩) (.inl (.inl rfl)) (.int .i64 ((j : Int) + 1))).alloc (.cells #[.int .i64 oi, .int .i64 op, .int .i64 oq, .bool true] 117)
          refine ⟨_, ⟨oS, fun i hi => .inl hi⟩, ⟨rfl, ?_, ?_, ?_, ?_, ho.trans oS⟩⟩
          · rw [show (((s ++ [(⟨oi, oc, os, op, oq⟩ : OrdR)]).length : Nat) : Int) = (j : Int) + 1 by rw [List.length_append, ← HS.out.1]; simp]
            exact (ck.set (.int .i64 ((j : Int) + 1))).alloc _
          · rw [HSN.out, HE2.out]
            exact (cl.far (blk_ne (by omega)) _).alloc _
          · exact (cr.far (blk_ne (by omega)) _).alloc _
          · rw [List.length_append, ← HS.out.1]
            exact HJ.out
        · have HNC := Lib.hid hc
          have s3 : (oc == ec) = false := by simpa using hc
          by_cases hmn : oq ≤ lf0
          · have e1 : hitOf ec lf0 ⟨oi, oc, os, op, oq⟩ = ⟨oi, op, oq, false⟩ := by unfold hitOf; rw [if_neg hc, show min oq lf0 = oq by omega]
            have e2 : leftOf ec lf0 ⟨oi, oc, os, op, oq⟩ = lf0 - oq := by unfold leftOf; rw [if_neg hc, show min oq lf0 = oq by omega]
            rw [e1] at b0 b1 b2 b3
            simp only at b0 b1 b2 b3
            have HE2 := Lib.hid e2
            have s4 : (oq != oq) = false := by simp
            have ww2 : IntKind.i64.wrap (lf0 - oq) = lf0 - oq := by rw [IntKind.wrap_i64]; omega
            clear hi hmt hsn hlb hl h5 o1 hrec hpre ck cl cr ho hB hs hat hj hlf0 hge hnz hMj hHat hc e1 e2 hxq
            gi_wp2
            obtain ⟨ck, cl, cr, ho⟩ := HK.out
            have oS := (((Only.refl (fun i => i = kb ∨ i = kb + 1 ∨ i = N0 + 1) A1).setCell (p := ⟨kb + 1, 0, none⟩) (.inl (.inr (.inl rfl))) (.int .i64 (lf0 - oq))).setCell (p := ⟨kb, 0, none⟩) (.inl (.inl rfl)) (.int .i64 ((j : Int) + 1))).alloc (.cells #[.int .i64 oi, .int .i64 op, .int .i64 oq, .bool false] 117)
            refine ⟨_, ⟨oS, fun i hi => .inl hi⟩, ⟨rfl, ?_, ?_, ?_, ?_, ho.trans oS⟩⟩
            · rw [show (((s ++ [(⟨oi, oc, os, op, oq⟩ : OrdR)]).length : Nat) : Int) = (j : Int) + 1 by rw [List.length_append, ← HS.out.1]; simp]
              exact ((ck.far (blk_ne (by omega)) _).set (.int .i64 ((j : Int) + 1))).alloc _
            · rw [HSN.out, HE2.out]
              exact ((cl.set (.int .i64 (lf0 - oq))).far (blk_ne (by omega)) _).alloc _
            · exact ((cr.far (blk_ne (by omega)) _).far (blk_ne (by omega)) _).alloc _
            · rw [List.length_append, ← HS.out.1]
              exact HJ.out
          · have e1 : hitOf ec lf0 ⟨oi, oc, os, op, oq⟩ = ⟨oi, op, lf0, false⟩ := by unfold hitOf; rw [if_neg hc, show min oq lf0 = lf0 by omega]
            have e2 : leftOf ec lf0 ⟨oi, oc, os, op, oq⟩ = 0 := by unfold leftOf; rw [if_neg hc]; show lf0 - min oq lf0 = 0; omega
            rw [e1] at b0 b1 b2 b3
            simp only at b0 b1 b2 b3
            have HE2 := Lib.hid e2
            have s4 : (lf0 != lf0) = false := by simp
            have ww2 : IntKind.i64.wrap (lf0 - lf0) = 0 := by rw [IntKind.wrap_i64]; omega
            clear hi hmt hsn hlb hl h5 o1 hrec hpre ck cl cr ho hB hs hat hj hlf0 hge hnz hMj hHat hc e1 e2 hxq
            gi_wp2
            obtain ⟨ck, cl, cr, ho⟩ := HK.out
            have oS := (((Only.refl (fun i => i = kb ∨ i = kb + 1 ∨ i = N0 + 1) A1).setCell (p := ⟨kb + 1, 0, none⟩) (.inl (.inr (.inl rfl))) (.int .i64 (0))).setCell (p := ⟨kb, 0, none⟩) (.inl (.inl rfl)) (.int .i64 ((j : Int) + 1))).alloc (.cells #[.int .i64 oi, .int .i64 op, .int .i64 lf0, .bool false] 117)
            refine ⟨_, ⟨oS, fun i hi => .inl hi⟩, ⟨rfl, ?_, ?_, ?_, ?_, ho.trans oS⟩⟩
            · rw [show (((s ++ [(⟨oi, oc, os, op, oq⟩ : OrdR)]).length : Nat) : Int) = (j : Int) + 1 by rw [List.length_append, ← HS.out.1]; simp]
              exact ((ck.far (blk_ne (by omega)) _).set (.int .i64 ((j : Int) + 1))).alloc _
            · rw [HSN.out, HE2.out]
              exact ((cl.set (.int .i64 (0))).far (blk_ne (by omega)) _).alloc _
            · exact ((cr.far (blk_ne (by omega)) _).far (blk_ne (by omega)) _).alloc _
            · rw [List.length_append, ← HS.out.1]
              exact HJ.out
    case done =>
      intro D T' B hD hi hTD hdd
      obtain ⟨rfl, ck, cl, cr, hl, ho⟩ := hi
      have hfm : F.length = m := by omega
      rw [hfm] at ck
      rw [← HV.out.2.1] at cl
      have hB := HBc.out.onlyA ho (by omega) (fun i hi => by have := (HBc.out.own.lt i hi); have h2 := B4.out.own.lt i hi; have h3 := HKZ.out; omega)
      have e0 := hB.c0.cell
      have e2 := hB.c2.cell
      have e3 := hB.c3.cell
      simp only at e2 e3
      have ze := cell_lt e0
      have qf := (HCc.out.2.2.2.1.only ho (by omega)).cell
      have zf := cell_lt qf
      have qk := ck.cell
      have ql := cl.cell
      have qr := cr.cell
      have rr := cr.free
      have zk := cell_lt qk
      have zl := cell_lt ql
      have zr := cell_lt qr
      have ww : IntKind.i64.wrap (re + go) = lf := by rw [IntKind.wrap_i64]; omega
      have v1 : ((m : Int) == (m : Int)) = true := by simp
      have v2 : (lf == lf) = true := by simp
      have HX := Lib.hid (⟨cr, ho, hD, hdd⟩ : _ ∧ _ ∧ _ ∧ _)
      clear hB ck cl cr ho hD hdd hTD hl hfm hrg'
      go_wp2_with fail
      obtain ⟨cr, ho, hD, hdd⟩ := HX.out
      have oS := (Only.refl (· = N0 + 1) B).setCell (p := ⟨N0 + 1, 0, none⟩) (.inl rfl) (.bool true)
      have hN := HN0.out
      have hlD := (Array.getElem?_eq_some_iff.1 hdd).1
      refine leaves_marks [D] _ (by simp) (fun E hE => ?_) (fun w' ho' => ?_)
      · simp only [List.mem_cons, List.mem_nil_iff, or_false] at hE
        subst hE
        exact (oS.block _ hlD (by omega)).trans hdd
      · have g6 := ((cr.set (.bool true)).only ho' (fun h => by simp only [List.mem_cons, List.mem_nil_iff, or_false] at h; omega)).cell
        refine ⟨.bool true, by simp [results, Try.results10, go_sem, g6], rfl, ?_⟩
        refine ((HOc.out.trans' ho (fun i h1 h2 => by omega)).trans' oS (fun i h1 h2 => by omega)).trans' ho' (fun i h1 h2 => ?_)
        simp only [List.mem_cons, List.mem_nil_iff, or_false] at h2
        have := HOc.out.size
        omega
    case stop =>
      intro D c s T' B hD hs hx hTD hdd
      obtain ⟨rfl, rfl, cr, ho⟩ := hx
      have qr := cr.cell
      have zr := cell_lt qr
      have HX := Lib.hid (⟨cr, ho, hD, hdd⟩ : _ ∧ _ ∧ _ ∧ _)
      clear cr ho hD hdd hTD hs
      refine wpIn_wide.2 ?_
      go_wp2_with fail
      obtain ⟨cr, ho, hD, hdd⟩ := HX.out
      have hN := HN0.out
      refine leaves_marks [D] _ (by simp) (fun E hE => ?_) (fun w' ho' => ?_)
      · simp only [List.mem_cons, List.mem_nil_iff, or_false] at hE
        subst hE
        exact hdd
      · have g6 := (cr.only ho' (fun h => by simp only [List.mem_cons, List.mem_nil_iff, or_false] at h; omega)).cell
        refine ⟨.bool true, by simp [results, Try.results10, go_sem, g6], rfl, ?_⟩
        refine (HOc.out.trans' ho (fun i h1 h2 => by omega)).trans' ho' (fun i h1 h2 => ?_)
        simp only [List.mem_cons, List.mem_nil_iff, or_false] at h2
        have := HOc.out.size
        omega

theorem planAdds_walk (w : World) (x0 : Int) (wf0 : (Lit.int .i64 x0).wf = true) (a : Option Addr) (len cap : Nat) (rows : List (List Value)) (hs : SliceIn w a len cap [.i .i64, .i .i64, .i .u8, .i .i64, .i .i64] rows) (hlen : len * 40 ≤ 140737488351232) (cs : List Value) (hf : Fits [.i .i64, .i .u8, .i .u8, .i .i64, .i .i64] cs) :
    Calls Try.prog 10 #[.int .i64 x0, .slice a len cap, .agg cs.toArray] w fun e w' => e = .returned (.bool true) ∧ Below w.heap.size w w' := by
  obtain ⟨ec, _, rfl, _, hf⟩ := fits_i hf
  obtain ⟨ek, _, rfl, _, hf⟩ := fits_i hf
  obtain ⟨es, _, rfl, _, hf⟩ := fits_i hf
  obtain ⟨ep, _, rfl, _, hf⟩ := fits_i hf
  obtain ⟨eq, _, rfl, _, hf⟩ := fits_i hf
  obtain rfl := fits_nil hf
  refine Calls.mono (R := fun e w' => e = .returned (.bool true) ∧ Only (fun _ => False) w w') ?_ (fun e w' h => ⟨h.1, h.2.below⟩)
  by_cases h0 : x0 < 0 ∨ 128 < x0
  · exact planAdds_no w x0 h0 a len cap ⟨ec, ek, es, ep, eq⟩
  · obtain ⟨most, rfl⟩ : ∃ k : Nat, x0 = k := ⟨x0.toNat, by omega⟩
    obtain ⟨L, hLl, hL, hwf⟩ := OrdIn.of_slice hs
    subst hLl
    exact planAdds_yes w most (by omega) a cap L hL hwf (by omega) ⟨ec, ek, es, ep, eq⟩
end Go.Proofs.Ytilngakgofjmpaa
