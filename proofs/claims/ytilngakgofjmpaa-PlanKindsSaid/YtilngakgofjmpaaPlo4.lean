/- Plan: plan.of, an All entry. Conditions: a book as its New lays it; the entry may be. -/
import Derived.Test.YtilngakgofjmpaaJC
import Derived.Test.YtilngakgofjmpaaJ8
namespace Go.Proofs.Ytilngakgofjmpaa
set_option linter.unusedVariables false
set_option linter.unusedSimpArgs false
open Go.RowKit Go.Shelf
open Od (OrdR)
attribute [local go_sem] Oper.semAt_some

set_option maxRecDepth 100000 in
set_option maxHeartbeats 8000000 in
theorem k_of4 {w : World} {b most room : Nat} {T : Nat → Prop} {l : Bool → List OrdR} (h : Bk w b T most room l) (e : EnR) (hm : mayE e = true) (hk : e.k = 4) (out : OrdR) :
    Calls Try.prog 118 #[.pointer (some ⟨b, 0, none⟩), enV e, ordV out] w (PlanPost w (planR e (facO l e.s e.p) (fun g => fitC most room l e.s e.p out g))) := by
  obtain ⟨ec, ek, es, ep, eq⟩ := e
  obtain ⟨ui, uc, us, up, uq⟩ := out
  simp only at hk
  have hmp := mayE_parts hm
  simp only at hmp
  have hsd : sidedB es = true := by
    unfold sidedB
    simpa using hmp.2.2.1
  have hq0 : 1 ≤ eq ∧ eq ≤ 1000000000 := hmp.2.2.2.2
  unfold enV ordV
  simp only
  have hg := h.good
  have hle : (facO l es ep).length ≤ 256 := by
    have h1 := hg.len
    have h2 := hg.small.1
    have h3 := facO_len l es ep
    omega
  have hok : ∀ x ∈ facO l es ep, 1 ≤ x.q ∧ x.q ≤ 1000000000 := fun x hx => by
    obtain ⟨q, hq⟩ := facO_mem hx
    exact (hg.ok q x hq).2.2.2.2.2.2
  have HOK := Lib.hid hok
  have HLE := Lib.hid hle
  have HLT := Lib.hid h.lt
  have HSEQ := Lib.hid fun W (o : Only (fun _ => False) w W) (Bs Bb Bl : Nat) (hBs : Cell W Bs 0 (.int .u8 (facS es))) (hBb : Cell W Bb 0 (.pointer (some ⟨b, 0, none⟩))) (hBl : Cell W Bl 0 (.int .i64 (if sidedB es then ep else 0))) => bk_fac_iter (h.only o (fun _ _ => id)) es ep hBs hBb hBl
  have HFT := Lib.hid fun W (o : Only (fun _ => False) w W) (g : Nat) => k_fitsP (h.only o (fun _ _ => id)) ⟨ec, ek, es, ep, eq⟩ hsd g ⟨ui, uc, us, up, uq⟩
  have HLO := Lib.hid fun W (o : Only (fun _ => False) w W) => k_lots (h.only o (fun _ _ => id)) ⟨ec, ek, es, ep, eq⟩
  unfold enV at HFT HLO
  unfold ordV at HFT
  simp only at HFT HLO
  obtain ⟨fit, hfit⟩ : ∃ fit : Nat → Int, fit = fun g => fitC most room l es ep ⟨ui, uc, us, up, uq⟩ g := ⟨_, rfl⟩
  rw [← hfit]
  have HFT := Lib.hid fun W o g => (show Calls Try.prog 147 #[.pointer (some ⟨b, 0, none⟩), .agg #[.int .i64 ec, .int .u8 ek, .int .u8 es, .int .i64 ep, .int .i64 eq], .int .i64 (g : Nat), .agg #[.int .i64 ui, .int .i64 uc, .int .u8 us, .int .i64 up, .int .i64 uq]] W fun en w' => en = .returned (.int .i64 (fit g)) ∧ Only (fun _ => False) W w' from by rw [hfit]; exact HFT.out W o g)
  obtain ⟨xs, hxs⟩ : ∃ xs, xs = facO l es ep := ⟨_, rfl⟩
  rw [← hxs] at HSEQ HOK HLE HLO ⊢
  obtain ⟨PL, hPL⟩ : ∃ PL, planR ⟨ec, ek, es, ep, eq⟩ xs fit = PL := ⟨_, rfl⟩
  rw [hPL]
  have HPL := Lib.hid hPL
  clear h hg hle hok hxs hfit hm hmp hsd hPL
  rename_i HFTold
  clear HFTold
  subst hk
  refine callsIn_wide.1 (callsIn_of_wp_marks (n := 0) Try.func118 rfl trivial (wpIn_wide.2 ?_) rfl)
  simp only [Try.ntmps118, List.size_toArray, List.length_cons, List.length_nil, Nat.reduceAdd, Nat.reduceSub, Array.replicate_succ, Array.replicate_zero, List.push_toArray, List.append_toArray, List.nil_append, List.cons_append]
  go_upto_region 1 with fail
  obtain ⟨W0, hW0⟩ : ∃ W0, ((((w.alloc (.cells #[.int .i64 ec, .int .u8 4, .int .u8 es, .int .i64 ep, .int .i64 eq] 111)).alloc (.cells #[.int .i64 ui, .int .i64 uc, .int .u8 us, .int .i64 up, .int .i64 uq] 54)).alloc (.cells #[.slice none 0 0, .int .i64 0, .int .i64 0, .int .i64 0] 104)).alloc (.cells #[.int .i64 0] 26)) = W0 := ⟨_, rfl⟩
  obtain ⟨N0, hN0⟩ : ∃ N0, w.heap.size = N0 := ⟨_, rfl⟩
  have hB : OfB w N0 ec 4 es ep eq ui uc us up uq W0 := by
    have hE : ∀ (o : Nat) (v : Value), (#[.int .i64 ec, .int .u8 4, .int .u8 es, .int .i64 ep, .int .i64 eq] : Array Value)[o]? = some v → Cell W0 N0 o v := fun o v hv => by rw [← hW0, ← hN0]; exact (((Cell.new hv).alloc _).alloc _).alloc _
    have hO : ∀ (o : Nat) (v : Value), (#[.int .i64 ui, .int .i64 uc, .int .u8 us, .int .i64 up, .int .i64 uq] : Array Value)[o]? = some v → Cell W0 (N0 + 1) o v := fun o v hv => by
      have := ((Cell.new (w := (w.alloc (.cells #[.int .i64 ec, .int .u8 4, .int .u8 es, .int .i64 ep, .int .i64 eq] 111))) (t := 54) hv).alloc (.cells #[.slice none 0 0, .int .i64 0, .int .i64 0, .int .i64 0] 104)).alloc (.cells #[.int .i64 0] 26)
      rwa [hW0, World.size_alloc, hN0] at this
    exact ⟨hN0, by rw [← hW0]; exact ((((Only.refl _ w).alloc _).alloc _).alloc _).alloc _, hE 0 _ rfl, hE 1 _ rfl, hE 2 _ rfl, hE 3 _ rfl, hE 4 _ rfl, hO 0 _ rfl, hO 1 _ rfl, hO 2 _ rfl, hO 3 _ rfl, hO 4 _ rfl⟩
  have hP : OfP N0 W0 := by
    have hO : ∀ (o : Nat) (v : Value), (#[.slice none 0 0, .int .i64 0, .int .i64 0, .int .i64 0] : Array Value)[o]? = some v → Cell W0 (N0 + 1 + 1) o v := fun o v hv => by
      have := (Cell.new (w := ((w.alloc (.cells #[.int .i64 ec, .int .u8 4, .int .u8 es, .int .i64 ep, .int .i64 eq] 111)).alloc (.cells #[.int .i64 ui, .int .i64 uc, .int .u8 us, .int .i64 up, .int .i64 uq] 54))) (t := 104) hv).alloc (.cells #[.int .i64 0] 26)
      rwa [hW0, World.size_alloc, World.size_alloc, hN0] at this
    have hR : Cell W0 (N0 + 1 + 1 + 1) 0 (.int .i64 0) := by
      have := Cell.new (w := (((w.alloc (.cells #[.int .i64 ec, .int .u8 4, .int .u8 es, .int .i64 ep, .int .i64 eq] 111)).alloc (.cells #[.int .i64 ui, .int .i64 uc, .int .u8 us, .int .i64 up, .int .i64 uq] 54)).alloc (.cells #[.slice none 0 0, .int .i64 0, .int .i64 0, .int .i64 0] 104))) (cs := #[.int .i64 0]) (t := 26) (o := 0) rfl
      rwa [hW0, World.size_alloc, World.size_alloc, World.size_alloc, hN0] at this
    exact ⟨hO 0 _ rfl, hO 1 _ rfl, hO 2 _ rfl, hO 3 _ rfl, hR⟩
  have hlt : ∀ i, T i → i < N0 := by rw [← hN0]; exact HLT.out
  rw [hW0]
  simp only [hN0]
  clear hW0
  have HB := Lib.hid hB
  have HP := Lib.hid hP
  have d1 := hB.e1.cell
  have d2 := hB.e2.cell
  have d3 := hB.e3.cell
  have d4 := hB.e4.cell
  have d0 := hB.e0.cell
  have z0 := cell_lt d2
  clear hB hP hN0
  go_upto_region 6 with fail
  obtain ⟨ls, hls⟩ : ∃ ls, lotsO ec xs = ls := ⟨_, rfl⟩
  rw [hls] at HLO
  have HLE2 := Lib.hid hls
  clear hls
  obtain ⟨bb, hbb⟩ : ∃ bb, decide (ls < eq) = bb := ⟨_, rfl⟩
  have HBB := Lib.hid hbb
  go_cut [32] from 27 to 32 (fun s32 wx => s32 = .bool bb ∧ Only (fun _ => False) W0 wx)
  case first =>
    refine QZ.wp ?_
    go_region_with (go_at_call 146; refine (HLO.out _ (by have := HB.out.only; repeat' (first | (with_reducible exact Only.refl _ _) | (with_reducible assumption) | (refine Only.of_none ?_; with_reducible assumption) | (with_reducible refine Only.drewN ?_ _) | (with_reducible refine Only.drew ?_) | (with_reducible refine Only.alloc ?_ _) | (with_reducible refine Only.setCell ?_ ?_ _) | (with_reducible refine Only.then0 ?_ (by with_reducible assumption)) | (with_reducible refine Only.thenN ?_ (by with_reducible assumption) ?_) | (with_reducible refine Only.trans ?_ (by with_reducible assumption)) | (refine .inl ?_; first | rfl | (simp; done) | (simp [Ar.blk]; done)) | (refine .inr ?_; first | omega | (simp; done) | (simp; omega) | exact Only.size (by with_reducible assumption) | (refine Nat.le_trans (Only.size (by with_reducible assumption)) ?_; simp; done))))).mono ?_; rintro en w7 ⟨rfl, o7⟩; have k4 := (HB.out.e4.drew.only o7 id).cell; have zk := cell_lt k4)
    all_goals (
      unfold QZ
      dsimp only
      go_wp2_with fail
      go_meet
      exact ⟨rfl, by repeat' (first | (with_reducible exact Only.refl _ _) | (with_reducible assumption) | (refine Only.of_none ?_; with_reducible assumption) | (with_reducible refine Only.drewN ?_ _) | (with_reducible refine Only.drew ?_) | (with_reducible refine Only.alloc ?_ _) | (with_reducible refine Only.setCell ?_ ?_ _) | (with_reducible refine Only.then0 ?_ (by with_reducible assumption)) | (with_reducible refine Only.thenN ?_ (by with_reducible assumption) ?_) | (with_reducible refine Only.trans ?_ (by with_reducible assumption)) | (refine .inl ?_; first | rfl | (simp; done) | (simp [Ar.blk]; done)) | (refine .inr ?_; first | omega | (simp; done) | (simp; omega) | exact Only.size (by with_reducible assumption) | (refine Nat.le_trans (Only.size (by with_reducible assumption)) ?_; simp; done)))⟩)
  case rest =>
  obtain ⟨rfl, o7⟩ := hcut
  obtain ⟨W1, hW1⟩ : ∃ W1, W1 = wc := ⟨_, rfl⟩
  rw [← hW1] at o7 ⊢
  clear hW1
  have hB := HB.out.keep o7 (fun _ h => h.elim)
  have hp := HP.out.keep o7 id id
  have HB1 := Lib.hid hB
  have HP1 := Lib.hid hp
  have d1 := hB.e1.cell
  have z0 := cell_lt d1
  clear hB hp HB HP d2 d3 d4 d0 o7
  have HB := HB1
  have HP := HP1
  clear HB1 HP1
  clear hbb
  cases bb
  case true =>
    have hlt4 : ls < eq := by simpa using HBB.out
    have hpl : PL = noPlan 81 := by
      rw [← HPL.out]
      unfold planR
      simp only
      rw [if_neg (fun h => absurd h.1 (by decide)), if_pos ⟨trivial, by rw [HLE2.out]; exact hlt4⟩]
    subst hpl
    have q0 := HP.out.p0.cell
    have q1 := HP.out.p1.cell
    have q2 := HP.out.p2.cell
    have q3 := HP.out.p3.cell
    have qr := HP.out.r.cell
    have f0 := HP.out.p0.free
    have f1 := HP.out.p1.free
    have f2 := HP.out.p2.free
    have f3 := HP.out.p3.free
    have fr := HP.out.r.free
    have z1 := cell_lt q0
    have z2 := cell_lt qr
    clear HPL hlt4
    go_wp2_with fail
    have hp := HP.out
    obtain ⟨⟨p0, p1, p2, p3, pr⟩, oS⟩ := st_plan (P := N0 + 1 + 1) (R := N0 + 1 + 1 + 1) (by omega) hp.p0 hp.p1 hp.p2 hp.p3 hp.r (.slice none 0 0) (.int .i64 0) (.int .i64 0) (.int .i64 0) (.int .i64 81)
    have hN := HB.out.n
    refine leaves_marks [] _ (by simp) (fun E hE => by cases hE) (fun w' ho' => ?_)
    have nD : ∀ i, ¬ (i ∈ ([] : List Nat)) := fun i h => by cases h
    have g0 := (p0.only ho' (nD _)).cell
    have g1 := (p1.only ho' (nD _)).cell
    have g2 := (p2.only ho' (nD _)).cell
    have g3 := (p3.only ho' (nD _)).cell
    have gr := (pr.only ho' (nD _)).cell
    refine ⟨.tuple #[.agg #[.slice none 0 0, .int .i64 0, .int .i64 0, .int .i64 0], .int .i64 81], by simp [results, Try.results118, go_sem, g0, g1, g2, g3, gr], .slice none 0 0, rfl, World.ownsRow_nil _ _ _ _, ?_⟩
    refine (HB.out.only.trans' oS (fun i h1 h2 => by omega)).trans' ho' (fun i h1 h2 => ?_)
    cases h2
  have HLS := Lib.hid (show ¬ lotsO ec xs < eq by rw [HLE2.out]; simpa using HBB.out)
  go_upto_region 8 with fail
  have d4 := HB.out.e4.cell
  have z0 := cell_lt d4
  have hzm := HP.out.r.lt
  go_upto_region 9 with fail
  obtain ⟨L, hL⟩ : ∃ L, W1.heap.size = L := ⟨_, rfl⟩
  obtain ⟨W8, hW8⟩ : ∃ W8, (W1.alloc (.cells #[.int .i64 eq] 2)).alloc (.cells #[.int .i64 0] 3) = W8 := ⟨_, rfl⟩
  have o8 : Only (fun _ => False) W1 W8 := by rw [← hW8]; exact ((Only.refl _ _).alloc _).alloc _
  have c8 : Cell W8 L 0 (.int .i64 eq) := by rw [← hW8, ← hL]; exact (Cell.new rfl).alloc _
  have c9 : Cell W8 (L + 1) 0 (.int .i64 0) := by
    have := Cell.new (w := W1.alloc (.cells #[.int .i64 eq] 2)) (cs := #[.int .i64 0]) (t := 3) (o := 0) rfl
    rwa [hW8, World.size_alloc, hL] at this
  have hB := HB.out.keep o8 (fun _ h => h.elim)
  have hP := HP.out.keep o8 id id
  rw [hW8]
  simp only [hL]
  rw [hL] at hzm
  have d2 := hB.e2.cell
  have d3 := hB.e3.cell
  have z1 := cell_lt d2
  have HBm := Lib.hid hB
  have HPm := Lib.hid hP
  have HC8 := Lib.hid (⟨c8, c9⟩ : _ ∧ _)
  have HO8 := Lib.hid o8
  clear hB hP c8 c9 d4 z0 o8 hW8
  go_wp2_with fail
  refine (k_facing _ b es ep).mono ?_
  intro en Wc hp
  obtain ⟨Bs1, Bb1, Bl1, rfl, oc, cs, cb, cl, gs, gb, gl'⟩ := hp
  have hB := HBm.out.keep oc (fun _ h => h.elim)
  have hP := HPm.out.keep oc id id
  have c8 := HC8.out.1.only oc id
  have c9 := HC8.out.2.only oc id
  have hsz1 := oc.size
  have hz8 := HC8.out.2.lt
  have HSEQ1 := Lib.hid (HSEQ.out Wc hB.only Bs1 Bb1 Bl1 cs cb cl)
  have HKK1 := Lib.hid (⟨cs.lt, cb.lt, cl.lt⟩ : _ ∧ _ ∧ _)
  have HBc := Lib.hid hB
  have HST := Lib.hid (OfI.start (c := ec) rfl hP.p0 hP.p1 hP.p2 hP.p3 c8 c9)
  have HR0 := Lib.hid hP.r
  have HOW := Lib.hid (HO8.out.trans oc)
  clear cs cb cl oc hB hP HBm HPm HC8 d2 d3 z1 c8 c9
  go_wp2_with fail
  refine (wpIn_wide (n := 0)).1 ?_
  refine rangeT (gf := 140) (lb := #[.pointer (some ⟨Bs1, 0, none⟩), .pointer (some ⟨Bb1, 0, none⟩), .pointer (some ⟨Bl1, 0, none⟩)]) rfl (enters_of Try.func140 (by kernel_rfl) rfl)
    HSEQ1.out (fun _ => rfl) (Nat.le_refl _) (KeepB.refl _ _) ?hK
    (OfI Wc.heap.size Wc (N0 + 1 + 1) L (L + 1) ec eq) (OfX xs Wc.heap.size Wc (N0 + 1 + 1) L (L + 1) 3 ec eq) (TH (N0 + 1 + 1) L (L + 1) (.slice none 0 0)) ?hT ?hI ?hIx HST.out ?round ?done ?stop
  case hK =>
    rintro i (hi | rfl | rfl | rfl)
    · have := hlt i hi; omega
    · exact HKK1.out.1
    · exact HKK1.out.2.1
    · exact HKK1.out.2.2
  case hT =>
    intro s T' A hi i ht
    obtain ⟨h1, h2⟩ := hi.ti i ht
    have hk3 := HKK1.out
    refine ⟨?_, h2⟩
    rintro (hk | hk | hk | hk)
    · have := hlt _ hk; omega
    all_goals omega
  case hI => exact fun s T' A B S hi hAB hS => hi.keep hAB hS
  case hIx => exact fun c s T' A B S hi hAB hS => ⟨hi.k, hi.i.keep hAB hS⟩
  case round =>
    intro l1 s T' x A hl1 hszA hrec hTl hi hpre
    obtain ⟨oi, oc, os, op, oq⟩ := x
    unfold encO ordV
    gi_wp2
    refine ⟨(Only.refl _ A).alloc _, fun A1 hi1 o1 hr1 => ?_⟩
    have hlA : l1 < A.heap.size := by obtain ⟨r, hr⟩ := hrec; exact (Array.getElem?_eq_some_iff.1 hr).1
    have h5 := (Five.new A (.int .i64 oi) (.int .i64 oc) (.int .u8 os) (.int .i64 op) (.int .i64 oq) 54).only o1 (show ¬ A.heap.size = l1 by omega)
    have d1 := h5.c0.cell
    have d2 := h5.c1.cell
    have d3 := h5.c2.cell
    have d4 := h5.c3.cell
    have d5 := h5.c4.cell
    have zd := cell_lt d1
    have hpl := hpre.length_le
    rw [List.length_append] at hpl
    have hpl : s.length + 1 ≤ 256 := Nat.le_trans hpl HLE.out
    have hml := meet_len ec s eq
    have hgl := goneM_le ec s eq
    have hxq := HOK.out _ (hpre.subset (List.mem_append.2 (.inr (List.mem_singleton.2 rfl))))
    simp only at hxq
    have hlf := leftM_bd (c := ec) (L := s) (left := eq) (by omega) (fun y hy => (HOK.out y (hpre.subset (List.mem_append.2 (.inl hy)))).1)
    have HI1 := Lib.hid hi1
    obtain ⟨⟨v, rfl, hcv, hw⟩, k1, k2, k3, kl, kg, ho⟩ := hi1
    obtain ⟨lf, hlfe⟩ : ∃ lf, lf = leftM ec eq s := ⟨_, rfl⟩
    obtain ⟨gn, hgne⟩ : ∃ gn, gn = goneM ec eq s := ⟨_, rfl⟩
    obtain ⟨ml, hmle⟩ : ∃ ml, ml = (meet ec eq s).length := ⟨_, rfl⟩
    rw [← hlfe] at k1 kl hlf
    rw [← hgne] at kg hgl
    rw [← hmle] at hml hgl hw
    obtain ⟨tr, htr⟩ : ∃ tr, tr = eq - lf := ⟨_, rfl⟩
    rw [← htr] at k1
    have HLF := Lib.hid (⟨hlfe, hgne, hmle, htr⟩ : _ ∧ _ ∧ _ ∧ _)
    have htb : 0 ≤ tr ∧ tr ≤ 1000000000 := by omega
    clear hlfe hgne hmle htr
    have ql := kl.cell
    have zl := cell_lt ql
    by_cases h0 : lf = 0
    · have u1 : (lf == 0) = true := by simpa using h0
      have HX := Lib.hid (HI1.out.done ((List.prefix_append _ _).trans hpre) (by rw [← HLF.out.1]; exact h0))
      clear hi HI1 k1 k2 k3 kl kg ho hcv hw h5 o1 hr1 hrec hpre h0 d1 d2 d3 d4 d5
      gi_wp2
      exact ⟨_, ⟨Only.refl _ _, fun i hi => .inl hi⟩, ⟨rfl, HX.out⟩⟩
    · have u1 : (lf == 0) = false := by simpa using h0
      have qe := (HBc.out.e0.only ho (by omega)).cell
      have ze := cell_lt qe
      have hzz : Wc.heap.size ≤ A1.heap.size := Nat.le_trans hszA (by have := o1.size; rw [World.size_alloc] at this; omega)
      obtain ⟨bo, hbo⟩ : ∃ bo, (oc == ec) = bo := ⟨_, rfl⟩
      have HD5 := Lib.hid d5
      have HK := Lib.hid (⟨hcv, hw, k1, k2, k3, kl, kg, ho⟩ : _ ∧ _ ∧ _ ∧ _ ∧ _ ∧ _ ∧ _ ∧ _)
      have HNE := Lib.hid h0
      have hAz : A.heap.size < A1.heap.size := by
        have := o1.size
        rw [World.size_alloc] at this
        omega
      have HPR := Lib.hid hpre
      clear hi HI1 k1 k2 k3 kl kg ho hcv hw h5 o1 hr1 hrec hpre h0
      gi_upto_if 59 with fail
      obtain ⟨A2, hA2⟩ : ∃ A2, A1.alloc (.cells #[.int .i64 oi, .int .i64 op, .int .i64 oq, .bool bo] 117) = A2 := ⟨_, rfl⟩
      obtain ⟨H, hH⟩ : ∃ H, A1.heap.size = H := ⟨_, rfl⟩
      have oA : Only (fun _ => False) A1 A2 := by rw [← hA2]; exact (Only.refl _ _).alloc _
      have hRA : RdA A1 (N0 + 1 + 1) L (L + 1) H v tr oi op oq bo lf gn A2 := by
        obtain ⟨hcv, hw, k1, k2, k3, kl, kg, ho⟩ := HK.out
        have hN : ∀ (o : Nat) (v' : Value), (#[.int .i64 oi, .int .i64 op, .int .i64 oq, .bool bo] : Array Value)[o]? = some v' → Cell A2 H o v' := fun o v' hv => by rw [← hA2, ← hH]; exact Cell.new hv
        exact ⟨hN 0 _ rfl, hN 1 _ rfl, hN 2 _ rfl, hN 3 _ rfl, hcv.only oA id, k1.only oA id, k2.only oA id, k3.only oA id, kl.only oA id, kg.only oA id, Only.of_none oA⟩
      have hord := oA.cell d5 id
      have HORD := Lib.hid hord
      have HOA := Lib.hid oA
      rw [hA2]
      simp only [hH]
      have HRA := Lib.hid hRA
      have HHH := Lib.hid hH
      have hne : ¬ N0 + 1 + 1 = H ∧ ¬ L = H ∧ ¬ L + 1 = H ∧ ¬ L = N0 + 1 + 1 ∧ ¬ L + 1 = N0 + 1 + 1 ∧ A.heap.size < H := by
        omega
      have HNEQ := Lib.hid hne
      clear hA2 hH hRA d1 d2 d3 d4 d5 zd ql zl qe ze oA hord
      gi_cut [] from 57 (fun wx => ∃ hq lf', RdA A1 (N0 + 1 + 1) L (L + 1) H v (tr + (lf - lf')) oi op hq bo lf' gn wx ∧ hitOf ec lf ⟨oi, oc, os, op, oq⟩ = ⟨oi, op, hq, bo⟩ ∧ leftOf ec lf ⟨oi, oc, os, op, oq⟩ = lf')
      case first =>
        cases bo with
        | true =>
          have hc : oc = ec := by simpa using hbo
          have HCC := Lib.hid hc
          clear hc hbo
          gi_wp2
          gi_meet
          exact ⟨oq, lf, by rw [Int.sub_self, Int.add_zero]; exact HRA.out, by unfold hitOf; rw [if_pos HCC.out], by unfold leftOf; rw [if_pos HCC.out]⟩
        | false =>
          have hc : oc ≠ ec := by simpa using hbo
          have HCC := Lib.hid hc
          clear hc hbo
          have hR := HRA.out
          have y5 := HORD.out
          have q2 := hR.h2.cell
          have r2 := hR.h2.free
          have ql := hR.l.cell
          have rl := hR.l.free
          have q1 := hR.p1.cell
          have r1 := hR.p1.free
          have z1 := cell_lt q2
          have z2 := cell_lt ql
          have z3 := cell_lt q1
          have z4 := cell_lt y5
          obtain ⟨n1, n2, n3, n4, n5, n6⟩ := HNEQ.out
          have n7 : ¬ A.heap.size = H := by omega
          clear hR
          by_cases hmn : oq ≤ lf
          · have w1 : IntKind.i64.wrap (lf - oq) = lf - oq := by rw [IntKind.wrap_i64]; omega
            have w2 : IntKind.i64.wrap (tr + oq) = tr + oq := by rw [IntKind.wrap_i64]; omega
            gi_wp2
            gi_meet
            refine ⟨oq, lf - oq, ?_, ?_, ?_⟩
            · rw [show tr + (lf - (lf - oq)) = tr + oq by omega]
              exact HRA.out.store n1 n2 n3 n4 n5 (by omega) (by rw [HHH.out]; exact Nat.le_refl _) _ _ _
            · unfold hitOf; rw [if_neg HCC.out, show min oq lf = oq by omega]
            · unfold leftOf; rw [if_neg HCC.out, show min oq lf = oq by omega]
          · have w2 : IntKind.i64.wrap (tr + lf) = tr + lf := by rw [IntKind.wrap_i64]; omega
            have w3 : IntKind.i64.wrap (lf - lf) = 0 := by rw [IntKind.wrap_i64]; omega
            gi_wp2
            gi_meet
            refine ⟨lf, 0, ?_, ?_, ?_⟩
            · rw [show tr + (lf - 0) = tr + lf by omega]
              exact HRA.out.store n1 n2 n3 n4 n5 (by omega) (by rw [HHH.out]; exact Nat.le_refl _) _ _ _
            · unfold hitOf; rw [if_neg HCC.out, show min oq lf = lf by omega]
            · unfold leftOf; rw [if_neg HCC.out, show lf - min oq lf = 0 by omega]
      case rest =>
        obtain ⟨hq, lf', hR, e1, e2⟩ := hcut
        obtain ⟨A3, hA3⟩ : ∃ A3, A3 = wc := ⟨_, rfl⟩
        rw [← hA3] at hR ⊢
        clear hA3
        have y5 := (hR.o.cell (show A1.cell? ⟨A.heap.size, 4, none⟩ = some (.int .i64 oq) from HD5.out) (by omega))
        have q2 := hR.h2.cell
        have z1 := cell_lt q2
        have z4 := cell_lt y5
        have HRB := Lib.hid hR
        have HE12 := Lib.hid (⟨e1, e2⟩ : _ ∧ _)
        clear hR e1 e2 HRA
        gi_upto_if 79 with fail
        obtain ⟨qb, hqb⟩ : ∃ qb, (hq == oq) = qb := ⟨_, rfl⟩
        gi_cut [] from 75 (fun wx => ∃ gn', RdA A1 (N0 + 1 + 1) L (L + 1) H v (tr + (lf - lf')) oi op hq bo lf' gn' wx ∧ gn' = gn + if hq = oq then 1 else 0)
        case first =>
          by_cases hqq : hq = oq
          · have t9 : (hq == oq) = true := by simpa using hqq
            have HQ := Lib.hid hqq
            have q3 := HRB.out.g.cell
            have r3 := HRB.out.g.free
            have z5 := cell_lt q3
            have w1 : IntKind.i64.wrap ((gn : Int) + 1) = (gn : Int) + 1 := by rw [IntKind.wrap_i64]; omega
            clear hqq hqb
            gi_wp2
            gi_meet
            obtain ⟨n1, n2, n3, n4, n5, n6⟩ := HNEQ.out
            refine ⟨gn + 1, ?_, by rw [if_pos HQ.out]⟩
            exact HRB.out.gone n3 n5 (by omega) _ (by omega)
          · have t9 : (hq == oq) = false := by simpa using hqq
            have HQ := Lib.hid hqq
            clear hqq hqb
            gi_wp2
            gi_meet
            exact ⟨gn, HRB.out, by rw [if_neg HQ.out]; rfl⟩
        case rest =>
          obtain ⟨gn', hR, hgn'⟩ := hcut
          obtain ⟨A4, hA4⟩ : ∃ A4, A4 = wc := ⟨_, rfl⟩
          rw [← hA4] at hR ⊢
          clear hA4 hqb HRB q2 z1 y5 z4
          obtain ⟨hcv, hw, k1, k2, k3, kl, kg, ho⟩ := HK.out
          have hvb : ∀ i, v.ownBlock = some i → Wc.heap.size ≤ i ∧ i < A1.heap.size := fun i hi => hw.lt i hi
          have hw4 := ownsRow_apart hw hR.o (fun i hi h => by have := hvb i hi; omega)
          obtain ⟨v', W5, hr, hw5, o5, hloc⟩ := app_hit hw4 (.int .i64 oi) (.int .i64 op) (.int .i64 hq) (.bool bo) (by simp [Value.oneCell']) (by omega) (by have := hR.o.size; omega)
          have hno : ∀ i, i < Wc.heap.size → ¬ v.ownBlock = some i := fun i hi e => by have := hvb i e; omega
          have x0 := hR.p0.only o5 (hno _ (by omega))
          have x1 := hR.p1.only o5 (hno _ (by omega))
          have x2 := hR.p2.only o5 (hno _ (by omega))
          have x3 := hR.p3.only o5 (hno _ (by omega))
          have xl := hR.l.only o5 (hno _ (by omega))
          have xg := hR.g.only o5 (hno _ (by omega))
          obtain ⟨sa, sc, hsv, _⟩ := own_slice hw4
          obtain ⟨sa', sc', hsv', _⟩ := own_slice hw5
          have q0 := hR.p0.cell
          have h0 := hR.h0.cell
          have h1 := hR.h1.cell
          have h2 := hR.h2.cell
          have h3 := hR.h3.cell
          have f0 := x0.free
          have g0 := x0.cell
          have z1 := cell_lt q0
          have z2 := cell_lt h0
          have z3 := cell_lt g0
          have HX := Lib.hid (⟨x0, x1, x2, x3, xl, xg, hw5, o5, hloc, hR.o⟩ : _ ∧ _ ∧ _ ∧ _ ∧ _ ∧ _ ∧ _ ∧ _ ∧ _ ∧ _)
          have HSV' := Lib.hid hsv'
          have HGN := Lib.hid hgn'
          rw [hsv] at q0 hr g0
          rw [hsv'] at hr
          clear hcv hw k1 k2 k3 kl kg ho hvb hw4 x0 x1 x2 x3 xl xg hw5 o5 hloc hR hgn' hsv hsv' hno
          gi_wp2_with (gi_at_builtin; refine wpListIn_append_run rfl (.tmp 83) (.tmp 85) 102 rfl _ _ _ rfl rfl hr ?_)
          rw [← HSV'.out]
          obtain ⟨x0, x1, x2, x3, xl, xg, hw5, o5, hloc, oR⟩ := HX.out
          obtain ⟨hcv, hw, k1, k2, k3, kl, kg, ho⟩ := HK.out
          obtain ⟨e1, e2⟩ := HE12.out
          obtain ⟨f1, f2, f3, f4⟩ := HLF.out
          have oS := (Only.refl (· = N0 + 1 + 1) W5).setCell (p := ⟨N0 + 1 + 1, 0, none⟩) (.inl rfl) v'
          have hvb : ∀ i, v.ownBlock = some i → Wc.heap.size ≤ i := fun i hi => (hw.lt i hi).1
          have hvb' : ∀ i, v'.ownBlock = some i → Wc.heap.size ≤ i := fun i hi => (hw5.lt i hi).1
          have OT : Only (TH (N0 + 1 + 1) L (L + 1) v) A1 (W5.setCell ⟨N0 + 1 + 1, 0, none⟩ v') := ((oR.mono (fun i _ h => by
            rcases h with h | h | h
            · exact .inl h
            · exact .inr (.inl h)
            · exact .inr (.inr (.inl h)))).trans' o5 (fun i _ h => .inr (.inr (.inr h)))).trans' oS (fun i _ h => .inl h)
          obtain ⟨m1, m2, m3⟩ := meet_snoc (x := ⟨oi, oc, os, op, oq⟩) (show leftM ec eq s ≠ 0 by rw [← f1]; exact HNE.out)
          rw [← f1, e1] at m1
          rw [← f1, e2] at m2
          rw [← f1, ← f2, e1] at m3
          have hzR := oR.size
          refine ⟨TH (N0 + 1 + 1) L (L + 1) v', ⟨OT, fun i hi => ?_⟩, ⟨⟨v', rfl, x0.set v', ?_⟩, ?_, x2.far (off_ne (by decide)) _, x3.far (off_ne (by decide)) _, ?_, ?_, ?_⟩⟩
          · rcases hi with h | h | h | h
            · exact .inl (.inl h)
            · exact .inl (.inr (.inl h))
            · exact .inl (.inr (.inr (.inl h)))
            · rcases hloc with e | e
              · exact .inl (.inr (.inr (.inr (by rw [← e]; exact h))))
              · rw [e] at h
                injection h with h
                exact .inr (by omega)
          · rw [m1, List.length_append, hitC_append, ← f3]
            exact ownsRow_apart hw5 oS (fun i hi e => by have := hvb' i hi; omega)
          · rw [m2, show eq - lf' = tr + (lf - lf') by omega]
            exact x1.far (off_ne (by decide)) _
          · rw [m2]
            exact xl.far (blk_ne (by omega)) _
          · rw [m3]
            show Cell _ _ _ (.int .i64 ((gn + if hq = oq then 1 else 0 : Nat)))
            rw [← HGN.out]
            exact xg.far (blk_ne (by omega)) _
          · refine ho.trans' OT (fun i h1 h2 => ?_)
            rcases h2 with h | h | h | h
            · exact .inl h
            · exact .inr (.inl h)
            · exact .inr (.inr h)
            · have := hvb i h; omega

  case done =>
    intro D T' B hD hi hTD hdd
    obtain ⟨⟨v, rfl, hcv, hw⟩, k1, k2, k3, kl, kg, ho⟩ := hi
    obtain ⟨sa, sc, hsv, _⟩ := own_slice hw
    have hlfb := leftM_bd (c := ec) (L := xs) (left := eq) (by omega) (fun y hy => (HOK.out y hy).1)
    have hgb := Nat.le_trans (goneM_le ec xs eq) (meet_len ec xs eq)
    obtain ⟨lf, hlfe⟩ : ∃ lf, lf = leftM ec eq xs := ⟨_, rfl⟩
    obtain ⟨gn, hgne⟩ : ∃ gn, gn = goneM ec eq xs := ⟨_, rfl⟩
    obtain ⟨ml, hmle⟩ : ∃ ml, ml = (meet ec eq xs).length := ⟨_, rfl⟩
    rw [← hlfe] at k1 kl hlfb
    rw [← hgne] at kg hgb
    rw [← hmle] at hw hsv
    obtain ⟨tr, htr⟩ : ∃ tr, tr = eq - lf := ⟨_, rfl⟩
    rw [← htr] at k1
    subst hsv
    have hB := HBc.out.keep ho (fun i h => by omega)
    have kr := HR0.out.only ho (fun h => by omega)
    have hle := HLE.out
    have q0 := hcv.cell
    have q1 := k1.cell
    have q2 := k2.cell
    have q3 := k3.cell
    have f0 := hcv.free
    have f1 := k1.free
    have f2 := k2.free
    have f3 := k3.free
    have ql := kl.cell
    have qg := kg.cell
    have qr := kr.cell
    have fr := kr.free
    have y0 := hB.e0.cell
    have y1 := hB.e1.cell
    have y2 := hB.e2.cell
    have y3 := hB.e3.cell
    have y4 := hB.e4.cell
    have v0 := hB.u0.cell
    have v1 := hB.u1.cell
    have v2 := hB.u2.cell
    have v3 := hB.u3.cell
    have v4 := hB.u4.cell
    have z0 := cell_lt q0
    have z1 := cell_lt ql
    have z2 := cell_lt qg
    have z3 := cell_lt qr
    have z4 := cell_lt y0
    have z5 := cell_lt v0
    have m1 : ¬ N0 + 1 + 1 = L := by omega
    have m2 : ¬ N0 + 1 + 1 = L + 1 := by omega
    have HV := Lib.hid (⟨hlfe, hgne, hmle, htr⟩ : _ ∧ _ ∧ _ ∧ _)
    have HK := Lib.hid (⟨hcv, hw, k1, k2, k3, kr, ho, hB⟩ : _ ∧ _ ∧ _ ∧ _ ∧ _ ∧ _ ∧ _ ∧ _)
    have HD := Lib.hid (⟨hD, hdd⟩ : _ ∧ _)
    have hn := hB.n
    clear hcv hw k1 k2 k3 kl kg kr ho hB hD hdd hTD hlfe hgne hmle htr
    obtain rfl : PL = ⟨0, meet ec eq xs, tr, 0, lf⟩ := by
      obtain ⟨hlfe, hgne, hmle, htr⟩ := HV.out
      rw [← HPL.out]
      unfold planR
      simp only
      rw [if_neg (fun h => absurd h.1 (by decide)), if_neg (fun h => by have h1 := HLS.out; have h2 := h.2; omega), if_neg (by decide)]
      rw [← hlfe, htr]
    go_wp2_with fail
    obtain ⟨hcv, hw, k1, k2, k3, kr, ho, hB⟩ := HK.out
    obtain ⟨hD, hdd⟩ := HD.out
    have oZ := (Only.refl (· = N0 + 1 + 1) B).setCell (p := ⟨N0 + 1 + 1, 3, none⟩) (.inl rfl) (.int .i64 lf)
    have c0 := hcv.far (off_ne (by decide)) (.int .i64 lf) (p := ⟨N0 + 1 + 1, 3, none⟩)
    have c1 := k1.far (off_ne (by decide)) (.int .i64 lf) (p := ⟨N0 + 1 + 1, 3, none⟩)
    have c2 := k2.far (off_ne (by decide)) (.int .i64 lf) (p := ⟨N0 + 1 + 1, 3, none⟩)
    have c3 := k3.set (.int .i64 lf)
    have cr := kr.far (blk_ne (by omega)) (.int .i64 lf) (p := ⟨N0 + 1 + 1, 3, none⟩)
    obtain ⟨⟨p0, p1, p2, p3, pr⟩, oS⟩ := st_plan (P := N0 + 1 + 1) (R := N0 + 1 + 1 + 1) (by omega) c0 c1 c2 c3 cr (.slice sa ml sc) (.int .i64 tr) (.int .i64 0) (.int .i64 lf) (.int .i64 0)
    have hlD := (Array.getElem?_eq_some_iff.1 hdd).1
    have hzZ := oZ.size
    refine leaves_marks [D] _ (by simp ) (fun E hE => ?_) (fun w' ho' => ?_)
    · simp only [List.mem_cons, List.mem_nil_iff, or_false] at hE
      subst hE
      exact (oS.block _ (by omega) (fun h => by omega)).trans ((oZ.block _ (by omega) (fun h => by omega)).trans hdd)
    · have nD : ∀ i, i < N0 + 1 + 1 + 1 + 1 → ¬ (i ∈ [D]) := fun i hi h => by
        simp only [List.mem_cons, List.mem_nil_iff, or_false] at h
        have := hsz1
        omega
      have g0 := (p0.only ho' (nD _ (by omega))).cell
      have g1 := (p1.only ho' (nD _ (by omega))).cell
      have g2 := (p2.only ho' (nD _ (by omega))).cell
      have g3 := (p3.only ho' (nD _ (by omega))).cell
      have gr := (pr.only ho' (nD _ (by omega))).cell
      refine ⟨.tuple #[.agg #[(.slice sa ml sc), (.int .i64 tr), (.int .i64 0), (.int .i64 lf)], (.int .i64 0)], by simp [results, Try.results118, go_sem, g0, g1, g2, g3, gr], (.slice sa ml sc), rfl, ?_, ?_⟩
      · show World.ownsRow _ _ _ _ _ (meet ec eq xs).length _
        rw [← HV.out.2.2.1]
        have hb : ∀ i, (Value.slice sa ml sc).ownBlock = some i → Wc.heap.size ≤ i := fun i hi => (hw.lt i hi).1
        have h1 := ownsRow_apart (ownsRow_apart hw oZ (fun i hi e => by have := hb i hi; omega)) oS (fun i hi e => by have := hb i hi; omega)
        refine ownsRow_base (ownsRow_apart h1 ho' (fun i hi h => ?_)) (by omega)
        simp only [List.mem_cons, List.mem_nil_iff, or_false] at h
        subst h
        exact own_ne' hw hdd hi
      · refine ((hB.only.trans' oZ (fun i h1 h2 => by omega)).trans' oS (fun i h1 h2 => by omega)).trans' ho' (fun i h1 h2 => ?_)
        simp only [List.mem_cons, List.mem_nil_iff, or_false] at h2
        omega

  case stop =>
    intro D c s T' B hD hs hx hTD hdd
    obtain ⟨rfl, hi⟩ := hx
    refine wpIn_wide.2 ?_
    clear hs
    obtain ⟨⟨v, rfl, hcv, hw⟩, k1, k2, k3, kl, kg, ho⟩ := hi
    obtain ⟨sa, sc, hsv, _⟩ := own_slice hw
    have hlfb := leftM_bd (c := ec) (L := xs) (left := eq) (by omega) (fun y hy => (HOK.out y hy).1)
    have hgb := Nat.le_trans (goneM_le ec xs eq) (meet_len ec xs eq)
    obtain ⟨lf, hlfe⟩ : ∃ lf, lf = leftM ec eq xs := ⟨_, rfl⟩
    obtain ⟨gn, hgne⟩ : ∃ gn, gn = goneM ec eq xs := ⟨_, rfl⟩
    obtain ⟨ml, hmle⟩ : ∃ ml, ml = (meet ec eq xs).length := ⟨_, rfl⟩
    rw [← hlfe] at k1 kl hlfb
    rw [← hgne] at kg hgb
    rw [← hmle] at hw hsv
    obtain ⟨tr, htr⟩ : ∃ tr, tr = eq - lf := ⟨_, rfl⟩
    rw [← htr] at k1
    subst hsv
    have hB := HBc.out.keep ho (fun i h => by omega)
    have kr := HR0.out.only ho (fun h => by omega)
    have hle := HLE.out
    have q0 := hcv.cell
    have q1 := k1.cell
    have q2 := k2.cell
    have q3 := k3.cell
    have f0 := hcv.free
    have f1 := k1.free
    have f2 := k2.free
    have f3 := k3.free
    have ql := kl.cell
    have qg := kg.cell
    have qr := kr.cell
    have fr := kr.free
    have y0 := hB.e0.cell
    have y1 := hB.e1.cell
    have y2 := hB.e2.cell
    have y3 := hB.e3.cell
    have y4 := hB.e4.cell
    have v0 := hB.u0.cell
    have v1 := hB.u1.cell
    have v2 := hB.u2.cell
    have v3 := hB.u3.cell
    have v4 := hB.u4.cell
    have z0 := cell_lt q0
    have z1 := cell_lt ql
    have z2 := cell_lt qg
    have z3 := cell_lt qr
    have z4 := cell_lt y0
    have z5 := cell_lt v0
    have m1 : ¬ N0 + 1 + 1 = L := by omega
    have m2 : ¬ N0 + 1 + 1 = L + 1 := by omega
    have HV := Lib.hid (⟨hlfe, hgne, hmle, htr⟩ : _ ∧ _ ∧ _ ∧ _)
    have HK := Lib.hid (⟨hcv, hw, k1, k2, k3, kr, ho, hB⟩ : _ ∧ _ ∧ _ ∧ _ ∧ _ ∧ _ ∧ _ ∧ _)
    have HD := Lib.hid (⟨hD, hdd⟩ : _ ∧ _)
    have hn := hB.n
    clear hcv hw k1 k2 k3 kl kg kr ho hB hD hdd hTD hlfe hgne hmle htr
    obtain rfl : PL = ⟨0, meet ec eq xs, tr, 0, lf⟩ := by
      obtain ⟨hlfe, hgne, hmle, htr⟩ := HV.out
      rw [← HPL.out]
      unfold planR
      simp only
      rw [if_neg (fun h => absurd h.1 (by decide)), if_neg (fun h => by have h1 := HLS.out; have h2 := h.2; omega), if_neg (by decide)]
      rw [← hlfe, htr]
    go_wp2_with fail
    obtain ⟨hcv, hw, k1, k2, k3, kr, ho, hB⟩ := HK.out
    obtain ⟨hD, hdd⟩ := HD.out
    have oZ := (Only.refl (· = N0 + 1 + 1) B).setCell (p := ⟨N0 + 1 + 1, 3, none⟩) (.inl rfl) (.int .i64 lf)
    have c0 := hcv.far (off_ne (by decide)) (.int .i64 lf) (p := ⟨N0 + 1 + 1, 3, none⟩)
    have c1 := k1.far (off_ne (by decide)) (.int .i64 lf) (p := ⟨N0 + 1 + 1, 3, none⟩)
    have c2 := k2.far (off_ne (by decide)) (.int .i64 lf) (p := ⟨N0 + 1 + 1, 3, none⟩)
    have c3 := k3.set (.int .i64 lf)
    have cr := kr.far (blk_ne (by omega)) (.int .i64 lf) (p := ⟨N0 + 1 + 1, 3, none⟩)
    obtain ⟨⟨p0, p1, p2, p3, pr⟩, oS⟩ := st_plan (P := N0 + 1 + 1) (R := N0 + 1 + 1 + 1) (by omega) c0 c1 c2 c3 cr (.slice sa ml sc) (.int .i64 tr) (.int .i64 0) (.int .i64 lf) (.int .i64 0)
    have hlD := (Array.getElem?_eq_some_iff.1 hdd).1
    have hzZ := oZ.size
    refine leaves_marks [D] _ (by simp ) (fun E hE => ?_) (fun w' ho' => ?_)
    · simp only [List.mem_cons, List.mem_nil_iff, or_false] at hE
      subst hE
      exact (oS.block _ (by omega) (fun h => by omega)).trans ((oZ.block _ (by omega) (fun h => by omega)).trans hdd)
    · have nD : ∀ i, i < N0 + 1 + 1 + 1 + 1 → ¬ (i ∈ [D]) := fun i hi h => by
        simp only [List.mem_cons, List.mem_nil_iff, or_false] at h
        have := hsz1
        omega
      have g0 := (p0.only ho' (nD _ (by omega))).cell
      have g1 := (p1.only ho' (nD _ (by omega))).cell
      have g2 := (p2.only ho' (nD _ (by omega))).cell
      have g3 := (p3.only ho' (nD _ (by omega))).cell
      have gr := (pr.only ho' (nD _ (by omega))).cell
      refine ⟨.tuple #[.agg #[(.slice sa ml sc), (.int .i64 tr), (.int .i64 0), (.int .i64 lf)], (.int .i64 0)], by simp [results, Try.results118, go_sem, g0, g1, g2, g3, gr], (.slice sa ml sc), rfl, ?_, ?_⟩
      · show World.ownsRow _ _ _ _ _ (meet ec eq xs).length _
        rw [← HV.out.2.2.1]
        have hb : ∀ i, (Value.slice sa ml sc).ownBlock = some i → Wc.heap.size ≤ i := fun i hi => (hw.lt i hi).1
        have h1 := ownsRow_apart (ownsRow_apart hw oZ (fun i hi e => by have := hb i hi; omega)) oS (fun i hi e => by have := hb i hi; omega)
        refine ownsRow_base (ownsRow_apart h1 ho' (fun i hi h => ?_)) (by omega)
        simp only [List.mem_cons, List.mem_nil_iff, or_false] at h
        subst h
        exact own_ne' hw hdd hi
      · refine ((hB.only.trans' oZ (fun i h1 h2 => by omega)).trans' oS (fun i h1 h2 => by omega)).trans' ho' (fun i h1 h2 => ?_)
        simp only [List.mem_cons, List.mem_nil_iff, or_false] at h2
        omega


end Go.Proofs.Ytilngakgofjmpaa
