/- PlanMore: the walk. No condition. -/
import Derived.Test.YtilngakgofjmpaaPls
namespace Go.Proofs.Ytilngakgofjmpaa
set_option linter.unusedVariables false
set_option linter.unusedSimpArgs false
open Go.RowKit Go.Shelf
open Od (OrdR)

theorem planC_now {most room : Nat} {l : Bool → List OrdR} {e : EnR} (hk : e.k = 3 ∨ e.k = 2) (hm : mayE e = true) : planC most room l e = ⟨0, meet e.c e.q (facO l e.s e.p), e.q - leftM e.c e.q (facO l e.s e.p), 0, leftM e.c e.q (facO l e.s e.p)⟩ := by
  unfold planC
  rw [if_pos hm]
  unfold planR
  rw [if_neg (fun h => by omega), if_neg (fun h => by omega), if_neg (by omega)]
theorem planC_not {most room : Nat} {l : Bool → List OrdR} {e : EnR} (hm : mayE e = false) : planC most room l e = noPlan 1 := by
  unfold planC
  rw [if_neg (by rw [hm]; decide)]
/-- A better limit: whom it meets besides. -/
theorem facO_wider {most room : Nat} {l : Bool → List OrdR} (g : Good most room l) {s lim lim' : Int} (hs : s = 1 ∨ s = 2) (hl : lim ≠ 0) (h : (s = 1 → lim ≤ lim') ∧ (s = 2 → lim' ≤ lim)) : ∃ D, facO l s lim' = facO l s lim ++ D := by
  rcases hs with rfl | rfl
  · obtain ⟨D, hD⟩ := facL_wider (sg := 1) (lim := lim) (lim' := lim') (g.srt true) (.inr ⟨hl, by have := h.1 rfl; omega⟩)
    exact ⟨D, by unfold facO; rw [if_pos rfl, if_pos rfl]; exact hD⟩
  · obtain ⟨D, hD⟩ := facL_wider (sg := -1) (lim := lim) (lim' := lim') (g.srt false) (.inr ⟨hl, by have := h.2 rfl; omega⟩)
    exact ⟨D, by unfold facO; rw [if_neg (by decide), if_pos rfl, if_neg (by decide), if_pos rfl]; exact hD⟩
/-- More is met first alike. -/
theorem more_meets {c q q' : Int} {F D : List OrdR} (h : 0 ≤ q) (h' : q ≤ q') (hq : ∀ x ∈ F ++ D, 1 ≤ x.q) :
    (meet c q F).length ≤ (meet c q' (F ++ D)).length ∧ ∀ (k : Nat) (a : HitR), (meet c q F)[k]? = some a → ∃ bq, (meet c q' (F ++ D))[k]? = some ⟨a.i, a.p, bq, a.o⟩ ∧ a.q ≤ bq ∧ (a.q ≠ bq → (meet c q F).length ≤ k + 1) := by
  obtain ⟨l1, l2⟩ := meet_longer c q F D
  obtain ⟨m1, m2⟩ := meet_more (c := c) (F := F ++ D) h h' hq
  refine ⟨Nat.le_trans l1 m1, fun k a ha => ?_⟩
  obtain ⟨b, hb, e1, e2, e3, e4, e5⟩ := m2 k a (l2 k a ha)
  obtain ⟨bi, bp, bq, bo⟩ := b
  simp only at e1 e2 e3 e4 e5
  subst e1 e2 e3
  exact ⟨bq, hb, e4, fun hne => Nat.le_trans l1 (e5 hne)⟩

set_option maxRecDepth 100000 in
set_option maxHeartbeats 16000000 in
theorem planMore_yes (w : World) (a : Option Addr) (cap : Nat) (L : List OrdR) (hL : OrdIn w a L) (hwf : ∀ o ∈ L, Wf o.i) (hl : L.length ≤ 1000000000000000) (ec ek0 es ep eq more better : Int) (wfm : Wf more) (wfb : Wf better) :
    Calls Try.prog 12 #[.slice a L.length cap, .agg #[.int .i64 ec, .int .u8 ek0, .int .u8 es, .int .i64 ep, .int .i64 eq], .int .i64 more, .int .i64 better] w fun e w' => e = .returned (.bool true) ∧ Only (fun _ => False) w w' := by
  have HLD := Lib.hid fun W (o : Only (fun _ => False) w W) => (show Calls Try.prog 52 #[.int .i64 256, .int .i64 128, .slice a L.length cap] W (LaidPost W 128 256 L) from k_laid W 256 128 (by decide) (by decide) L a cap (hL.only o (fun _ _ => id)) hwf hl)
  obtain ⟨len, hlen⟩ : ∃ len, len = L.length := ⟨_, rfl⟩
  rw [← hlen] at HLD ⊢
  have HE0 := Lib.hid (show ∀ (o : Nat) (v : Value), (#[.int .i64 ec, .int .u8 ek0, .int .u8 es, .int .i64 ep, .int .i64 eq] : Array Value)[o]? = some v → Cell (w.alloc (.cells #[.int .i64 ec, .int .u8 ek0, .int .u8 es, .int .i64 ep, .int .i64 eq] 111)) w.heap.size o v from fun o v hv => Cell.new hv)
  have HOE := Lib.hid (show Only (fun _ => False) w (w.alloc (.cells #[.int .i64 ec, .int .u8 ek0, .int .u8 es, .int .i64 ep, .int .i64 eq] 111)) from (Only.refl _ _).alloc _)
  clear hL hwf hl hlen
  go_enter Try.func12, Try.ntmps12
  go_wp2_with fail
  refine (pworks_walk _).mono ?_
  rintro en w1 ⟨rfl, o1⟩
  have O1 := HOE.out.trans o1
  have HO1 := Lib.hid O1
  have hN1 : w.heap.size < w1.heap.size := by have h1 := o1.size; rw [World.size_alloc] at h1; omega
  have HE1 := Lib.hid fun (j : Nat) (v : Value) (hv : (#[.int .i64 ec, .int .u8 ek0, .int .u8 es, .int .i64 ep, .int .i64 eq] : Array Value)[j]? = some v) => (HE0.out j v hv).only o1 id
  clear o1 HOE HE0
  go_wp2_with fail
  refine (HLD.out _ O1).mono ?_
  intro en w2 hq
  obtain ⟨b, r, T, T6, rfl, hBP⟩ := hq
  have hgd := hBP.bk.good
  have o2 := hBP.only
  obtain ⟨l, hl⟩ : ∃ l, l = laidL 128 256 L := ⟨_, rfl⟩
  rw [← hl] at hBP hgd
  obtain ⟨N0, hN0⟩ : ∃ N0, w.heap.size = N0 := ⟨_, rfl⟩
  have hTN : ∀ i, T i → N0 < i := fun i hi => by have := (hBP.lo i hi).1; omega
  have HBK := Lib.hid hBP.bk
  have HGD := Lib.hid hgd
  have d0 := (HE1.out 0 _ rfl).only o2 id
  have d1 := (HE1.out 1 _ rfl).only o2 id
  have d2 := (HE1.out 2 _ rfl).only o2 id
  have d3 := (HE1.out 3 _ rfl).only o2 id
  have d4 := (HE1.out 4 _ rfl).only o2 id
  rw [hN0] at d0 d1 d2 d3 d4
  have q1 := d1.cell
  have f1 := d1.free
  have zq := cell_lt q1
  obtain ⟨W3, hW3⟩ : ∃ W3, w2.setCell ⟨N0, 1, none⟩ (.int .u8 3) = W3 := ⟨_, rfl⟩
  have oS : Only (· = N0) w2 W3 := by rw [← hW3]; exact (Only.refl (· = N0) w2).setCell (.inl rfl) _
  have c0 : Cell W3 N0 0 (.int .i64 ec) := by rw [← hW3]; exact d0.far (off_ne (by decide)) _
  have c1 : Cell W3 N0 1 (.int .u8 3) := by rw [← hW3]; exact d1.set _
  have c2 : Cell W3 N0 2 (.int .u8 es) := by rw [← hW3]; exact d2.far (off_ne (by decide)) _
  have c3 : Cell W3 N0 3 (.int .i64 ep) := by rw [← hW3]; exact d3.far (off_ne (by decide)) _
  have c4 : Cell W3 N0 4 (.int .i64 eq) := by rw [← hW3]; exact d4.far (off_ne (by decide)) _
  have HC := Lib.hid (⟨c0, c1, c2, c3, c4⟩ : _ ∧ _ ∧ _ ∧ _ ∧ _)
  have hbk3 := hBP.bk.only oS (fun i hi e => by have := hTN i hi; omega)
  have HBK3 := Lib.hid hbk3
  have HO3 := Lib.hid ((HO1.out.trans o2).trans' oS (fun i h1 h2 => by omega))
  have HOF := Lib.hid fun W (o : Only (fun _ => False) W3 W) (e : EnR) => k_Of (HBK3.out.only o (fun _ _ => id)) e
  clear hBP hgd hl HLD o2 d0 d1 d2 d3 d4 c0 c1 c2 c3 c4 hbk3 oS HE1 O1 HBK
  by_cases hmay : mayE ⟨ec, 3, es, ep, eq⟩ = true
  case neg =>
    have hpl := planC_not (most := 128) (room := 256) (l := l) (e := ⟨ec, 3, es, ep, eq⟩) (by simpa using hmay)
    go_upto_region 6 with fail
    try rw [hW3]
    try simp only [hN0]
    clear hW3 q1 f1 zq
    have y0 := HC.out.1.cell
    have y1 := HC.out.2.1.cell
    have y2 := HC.out.2.2.1.cell
    have y3 := HC.out.2.2.2.1.cell
    have y4 := HC.out.2.2.2.2.cell
    have zy := cell_lt y0
    have HCALL := Lib.hid (HOF.out W3 (Only.refl _ _) ⟨ec, 3, es, ep, eq⟩)
    unfold enV at HCALL
    simp only at HCALL
    rw [hpl] at HCALL
    clear hpl hmay
    go_wp2_with fail
    refine HCALL.out.mono ?_
    intro en w4 hq
    obtain ⟨v4, rfl, hv4, o4⟩ := hq
    unfold planV noPlan
    obtain ⟨a4, c4, rfl, _⟩ := own_slice hv4
    have HO4 := Lib.hid o4
    clear hv4 y0 y1 y2 y3 y4 zy HCALL
    go_wp2_with fail
    go_returns
    exact ⟨rfl, HO3.out.trans (HO4.out.alloc _)⟩
  case pos =>
  obtain ⟨_, hpp, hss, hcc, hqq⟩ := mayE_parts hmay
  simp only at hpp hss hcc hqq
  rw [if_neg (by decide)] at hpp
  obtain ⟨F, hF⟩ : ∃ F, F = facO l es ep := ⟨_, rfl⟩
  have hokF : ∀ s lim, ∀ x ∈ facO l s lim, 1 ≤ x.q := fun s lim x hx => by
    obtain ⟨q, hq⟩ := facO_mem hx
    exact (HGD.out.ok q x hq).2.2.2.2.2.2.1
  have hlenF : ∀ s lim, (facO l s lim).length ≤ 256 := fun s lim => by
    have h1 := facO_len l s lim
    have h2 := HGD.out.len
    omega
  obtain ⟨lf, hlf⟩ : ∃ lf, lf = leftM ec eq F := ⟨_, rfl⟩
  obtain ⟨tr, htr⟩ : ∃ tr, tr = eq - lf := ⟨_, rfl⟩
  obtain ⟨M1, hM1⟩ : ∃ M1, M1 = meet ec eq F := ⟨_, rfl⟩
  obtain ⟨m, hm⟩ : ∃ m, m = M1.length := ⟨_, rfl⟩
  have hpl : planC 128 256 l ⟨ec, 3, es, ep, eq⟩ = ⟨0, M1, tr, 0, lf⟩ := by rw [planC_now (.inl rfl) hmay, htr, hlf, hM1, hF]
  have hmb : m ≤ 256 := by
    have := meet_len ec F eq
    rw [← hM1, ← hm] at this
    have h2 := hlenF es ep
    rw [← hF] at h2
    omega
  have HMAY := Lib.hid hmay
  have HOKF := Lib.hid hokF
  have HLENF := Lib.hid hlenF
  have HV := Lib.hid (⟨hF, hlf, htr, hM1, hm⟩ : _ ∧ _ ∧ _ ∧ _ ∧ _)
  go_upto_region 6 with fail
  try rw [hW3]
  try simp only [hN0]
  clear hW3 q1 f1 zq
  have y0 := HC.out.1.cell
  have y1 := HC.out.2.1.cell
  have y2 := HC.out.2.2.1.cell
  have y3 := HC.out.2.2.2.1.cell
  have y4 := HC.out.2.2.2.2.cell
  have zy := cell_lt y0
  have HCALL := Lib.hid (HOF.out W3 (Only.refl _ _) ⟨ec, 3, es, ep, eq⟩)
  unfold enV at HCALL
  simp only at HCALL
  rw [hpl] at HCALL
  clear hpl hmay hokF hlenF hF hlf htr hM1 hm
  go_wp2_with fail
  refine HCALL.out.mono ?_
  intro en w4 hq
  obtain ⟨v4, rfl, hv4, o4⟩ := hq
  unfold planV
  obtain ⟨a4, c4, rfl, _⟩ := own_slice hv4
  simp only at hv4 ⊢
  have B4 := Lib.hid (BoxP.new (P := ⟨0, M1, tr, 0, lf⟩) hv4)
  rw [show (PlanR.mk 0 M1 tr 0 lf).hits.length = m from HV.out.2.2.2.2.symm] at B4
  rw [← HV.out.2.2.2.2]
  obtain ⟨W5, hW5⟩ : ∃ W5, w4.alloc (.cells #[.slice a4 m c4, .int .i64 tr, .int .i64 0, .int .i64 lf] 104) = W5 := ⟨_, rfl⟩
  obtain ⟨b4, hb4⟩ : ∃ b4, w4.heap.size = b4 := ⟨_, rfl⟩
  have o35 : Only (fun _ => False) W3 W5 := by rw [← hW5]; exact o4.alloc _
  have B4 := Lib.hid (show BoxP b4 W3.heap.size (.slice a4 m c4) ⟨0, M1, tr, 0, lf⟩ W5 from by
    rw [← hW5, ← hb4]
    exact B4.out)
  have HO35 := Lib.hid o35
  have y4' := (HC.out.2.2.2.2.only o35 id).cell
  have zy' := cell_lt y4'
  clear hv4 o4 o35 y0 y1 y2 y3 y4 zy HCALL
  go_upto_region 7 with fail
  try rw [hW5]
  try simp only [hb4]
  clear hW5 hb4
  obtain ⟨BAD, hBAD⟩ : ∃ BAD, decide (more < 0 ∨ 1000000000 - eq < more ∨ better < 0 ∨ 1000000000 < better) = BAD := ⟨_, rfl⟩
  go_cut [55] from 35 to 55 (fun s55 wx => s55 = .bool BAD ∧ wx = W5)
  case first =>
    have ww : IntKind.i64.wrap (1000000000 - eq) = 1000000000 - eq := by rw [IntKind.wrap_i64]; omega
    by_cases a1 : more < 0
    · have s1 : decide (more < 0) = true := by simpa using a1
      obtain rfl : BAD = true := by rw [← hBAD]; exact decide_eq_true (.inl a1)
      clear hBAD a1
      go_wp2_with fail
      go_meet
      exact ⟨rfl, rfl⟩
    have s1 : decide (more < 0) = false := by simpa using a1
    by_cases a2 : 1000000000 - eq < more
    · have s2 : decide (1000000000 - eq < more) = true := by simpa using a2
      obtain rfl : BAD = true := by rw [← hBAD]; exact decide_eq_true (.inr (.inl a2))
      clear hBAD a1 a2
      go_wp2_with fail
      go_meet
      exact ⟨rfl, rfl⟩
    have s2 : decide (1000000000 - eq < more) = false := by simpa using a2
    by_cases a3 : better < 0
    · have s3 : decide (better < 0) = true := by simpa using a3
      obtain rfl : BAD = true := by rw [← hBAD]; exact decide_eq_true (.inr (.inr (.inl a3)))
      clear hBAD a1 a2 a3
      go_wp2_with fail
      go_meet
      exact ⟨rfl, rfl⟩
    have s3 : decide (better < 0) = false := by simpa using a3
    by_cases a4_ : 1000000000 < better
    · have s4 : decide (1000000000 < better) = true := by simpa using a4_
      obtain rfl : BAD = true := by rw [← hBAD]; exact decide_eq_true (.inr (.inr (.inr a4_)))
      clear hBAD a1 a2 a3 a4_
      go_wp2_with fail
      go_meet
      exact ⟨rfl, rfl⟩
    have s4 : decide (1000000000 < better) = false := by simpa using a4_
    obtain rfl : BAD = false := by
      rw [← hBAD]
      exact decide_eq_false (by omega)
    clear hBAD a1 a2 a3 a4_
    go_wp2_with fail
    go_meet
    exact ⟨rfl, rfl⟩
  case rest =>
  obtain ⟨rfl, hwc⟩ := hcut
  obtain ⟨W5', hW5'⟩ : ∃ W5', W5' = wc := ⟨_, rfl⟩
  rw [← hW5'] at hwc ⊢
  subst hwc
  clear hW5' y4' zy'
  have HBAD := Lib.hid hBAD
  clear hBAD
  cases BAD
  case true =>
    go_wp2_with fail
    go_returns
    exact ⟨rfl, HO3.out.trans HO35.out⟩
  case false =>
  have hnb : ¬ (more < 0 ∨ 1000000000 - eq < more ∨ better < 0 ∨ 1000000000 < better) := of_decide_eq_false HBAD.out
  have hmore : 0 ≤ more ∧ more ≤ 1000000000 - eq := by omega
  have hbet : 0 ≤ better ∧ better ≤ 1000000000 := by omega
  clear hnb HBAD
  have c0 := (HC.out.1.only HO35.out id).cell
  have c1 := (HC.out.2.1.only HO35.out id).cell
  have c2 := (HC.out.2.2.1.only HO35.out id).cell
  have c3 := (HC.out.2.2.2.1.only HO35.out id).cell
  have c4_ := (HC.out.2.2.2.2.only HO35.out id).cell
  have zc := cell_lt c0
  have ww1 : IntKind.i64.wrap (eq + more) = eq + more := by rw [IntKind.wrap_i64]; omega
  obtain ⟨sb, hsb⟩ : ∃ sb, (es == 1) = sb := ⟨_, rfl⟩
  have HSB := Lib.hid hsb
  obtain ⟨W6, hW6⟩ : ∃ W6, W5'.alloc (.cells #[.int .i64 ec, .int .u8 3, .int .u8 es, .int .i64 ep, .int .i64 (eq + more)] 111) = W6 := ⟨_, rfl⟩
  obtain ⟨bx, hbx⟩ : ∃ bx, W5'.heap.size = bx := ⟨_, rfl⟩
  have o56 : Only (fun _ => False) W5' W6 := by rw [← hW6]; exact (Only.refl _ _).alloc _
  have hX : ∀ (o : Nat) (v : Value), (#[.int .i64 ec, .int .u8 3, .int .u8 es, .int .i64 ep, .int .i64 (eq + more)] : Array Value)[o]? = some v → Cell W6 bx o v := fun o v hv => by rw [← hW6, ← hbx]; exact Cell.new hv
  have HX := Lib.hid (⟨o56, hX⟩ : _ ∧ _)
  have HBX := Lib.hid hbx
  have x0 := (hX 0 _ rfl).cell
  have x3f := (hX 3 _ rfl).free
  have x3 := (hX 3 _ rfl).cell
  have zx := cell_lt x0
  have cc2 := o56.cell c2 id
  have cc3 := o56.cell c3 id
  have zcc := cell_lt cc2
  have zc' : N0 < bx := by omega
  clear o56 hX
  go_upto_region 11 with fail
  try rw [hW6]
  try simp only [hbx]
  clear hW6 hbx c0 c1 c2 c3 c4_ zc zc'
  go_upto_if 65 with fail
  clear hsb
  go_cut [] from 66 to 77 (fun wx => ∃ px : Int, (Cell wx bx 0 (.int .i64 ec) ∧ Cell wx bx 1 (.int .u8 3) ∧ Cell wx bx 2 (.int .u8 es) ∧ Cell wx bx 3 (.int .i64 px) ∧ Cell wx bx 4 (.int .i64 (eq + more))) ∧ Only (· = bx) W6 wx ∧ (1 ≤ px ∧ px ≤ 1000000000) ∧ (es = 1 → ep ≤ px) ∧ (es = 2 → px ≤ ep))
  case first =>
    cases sb with
    | true =>
      have hes : es = 1 := by simpa using HSB.out
      have HES := Lib.hid hes
      clear hes
      have ww2 : IntKind.i64.wrap (ep + better) = ep + better := by rw [IntKind.wrap_i64]; omega
      by_cases hmn : ep + better ≤ 1000000000
      · go_wp2_with fail
        all_goals (
          go_meet
          obtain ⟨_, hX⟩ := HX.out
          exact ⟨_, ⟨(hX 0 _ rfl).far (off_ne (by decide)) _, (hX 1 _ rfl).far (off_ne (by decide)) _, (hX 2 _ rfl).far (off_ne (by decide)) _, (hX 3 _ rfl).set _, (hX 4 _ rfl).far (off_ne (by decide)) _⟩, (Only.refl (· = bx) W6).setCell (p := ⟨bx, 3, none⟩) (.inl rfl) _, by omega, fun _ => by omega, fun h => by have := HES.out; omega⟩)
      · go_wp2_with fail
        all_goals (
          go_meet
          obtain ⟨_, hX⟩ := HX.out
          exact ⟨_, ⟨(hX 0 _ rfl).far (off_ne (by decide)) _, (hX 1 _ rfl).far (off_ne (by decide)) _, (hX 2 _ rfl).far (off_ne (by decide)) _, (hX 3 _ rfl).set _, (hX 4 _ rfl).far (off_ne (by decide)) _⟩, (Only.refl (· = bx) W6).setCell (p := ⟨bx, 3, none⟩) (.inl rfl) _, by omega, fun _ => by omega, fun h => by have := HES.out; omega⟩)
    | false =>
      have hes : es = 2 := by
        have h1 : ¬ es = 1 := by simpa using HSB.out
        omega
      have HES := Lib.hid hes
      clear hes
      have ww2 : IntKind.i64.wrap (ep - better) = ep - better := by rw [IntKind.wrap_i64]; omega
      by_cases hmn : ep - better ≤ 1
      · go_wp2_with fail
        all_goals (
          go_meet
          obtain ⟨_, hX⟩ := HX.out
          exact ⟨_, ⟨(hX 0 _ rfl).far (off_ne (by decide)) _, (hX 1 _ rfl).far (off_ne (by decide)) _, (hX 2 _ rfl).far (off_ne (by decide)) _, (hX 3 _ rfl).set _, (hX 4 _ rfl).far (off_ne (by decide)) _⟩, (Only.refl (· = bx) W6).setCell (p := ⟨bx, 3, none⟩) (.inl rfl) _, by omega, fun h => by have := HES.out; omega, fun _ => by omega⟩)
      · go_wp2_with fail
        all_goals (
          go_meet
          obtain ⟨_, hX⟩ := HX.out
          exact ⟨_, ⟨(hX 0 _ rfl).far (off_ne (by decide)) _, (hX 1 _ rfl).far (off_ne (by decide)) _, (hX 2 _ rfl).far (off_ne (by decide)) _, (hX 3 _ rfl).set _, (hX 4 _ rfl).far (off_ne (by decide)) _⟩, (Only.refl (· = bx) W6).setCell (p := ⟨bx, 3, none⟩) (.inl rfl) _, by omega, fun h => by have := HES.out; omega, fun _ => by omega⟩)
  case rest =>
  obtain ⟨px, ⟨p0, p1, p2, p3, p4⟩, oS, hpx, hw1, hw2⟩ := hcut
  obtain ⟨W7, hW7⟩ : ∃ W7, W7 = wc := ⟨_, rfl⟩
  rw [← hW7] at p0 p1 p2 p3 p4 oS ⊢
  clear hW7 x0 x3f x3 zx cc2 cc3 zcc
  have o57 : Only (fun _ => False) W5' W7 := HX.out.1.trans' oS (fun i h1 h2 => by have := HBX.out; omega)
  have o37 := HO35.out.trans o57
  have hmay2 : mayE ⟨ec, 3, es, px, eq + more⟩ = true := by
    unfold mayE
    refine decide_eq_true ⟨⟨by show (1 : Int) ≤ 3; decide, by show (3 : Int) ≤ 5; decide⟩, ?_, hss, hcc, by simp only; omega⟩
    rw [if_neg (by show ¬ (3 : Int) = 2; decide)]
    exact hpx
  obtain ⟨D, hD⟩ := facO_wider HGD.out (l := l) (s := es) (lim := ep) (lim' := px) hss (by omega) ⟨hw1, hw2⟩
  rw [← HV.out.1] at hD
  have hokD : ∀ x ∈ F ++ D, 1 ≤ x.q := fun x hx => HOKF.out es px x (by rw [hD]; exact hx)
  obtain ⟨hml, hmm⟩ := more_meets (c := ec) (q := eq) (q' := eq + more) (F := F) (D := D) (by omega) (by omega) hokD
  have htrd := traded_more (c := ec) (q := eq) (q' := eq + more) (F := F) (D := D) (by omega) (by omega) hokD
  obtain ⟨lf2, hlf2⟩ : ∃ lf2, lf2 = leftM ec (eq + more) (F ++ D) := ⟨_, rfl⟩
  obtain ⟨tr2, htr2⟩ : ∃ tr2, tr2 = eq + more - lf2 := ⟨_, rfl⟩
  obtain ⟨M2, hM2⟩ : ∃ M2, M2 = meet ec (eq + more) (F ++ D) := ⟨_, rfl⟩
  obtain ⟨m2, hm2⟩ : ∃ m2, m2 = M2.length := ⟨_, rfl⟩
  have hql : planC 128 256 l ⟨ec, 3, es, px, eq + more⟩ = ⟨0, M2, tr2, 0, lf2⟩ := by rw [planC_now (.inl rfl) hmay2, htr2, hlf2, hM2, ← hD]
  have hm2b : m2 ≤ 256 := by
    have h1 := meet_len ec (F ++ D) (eq + more)
    rw [← hM2, ← hm2] at h1
    have h2 := HLENF.out es px
    rw [hD] at h2
    omega
  rw [← hM2] at hml hmm
  rw [← HV.out.2.2.2.1] at hml hmm
  rw [← hm2, ← HV.out.2.2.2.2] at hml
  rw [← HV.out.2.2.2.2] at hmm
  rw [← hlf2, ← htr2, ← HV.out.2.1, ← HV.out.2.2.1] at htrd
  have HCALL := Lib.hid (HOF.out W7 o37 ⟨ec, 3, es, px, eq + more⟩)
  unfold enV at HCALL
  simp only at HCALL
  rw [hql] at HCALL
  have HMM := Lib.hid hmm
  have HM2 := Lib.hid hm2
  have HO57 := Lib.hid o57
  have y0 := p0.cell
  have y1 := p1.cell
  have y2 := p2.cell
  have y3 := p3.cell
  have y4 := p4.cell
  have zy := cell_lt y0
  clear p0 p1 p2 p3 p4 oS hpx hw1 hw2 o57 o37 hmay2 hD hokD hmm hlf2 htr2 hM2 hm2 hql HX
  go_wp2_with fail
  refine HCALL.out.mono ?_
  intro en w8 hq
  obtain ⟨v8, rfl, hv8, o8⟩ := hq
  unfold planV
  obtain ⟨a8, c8, rfl, _⟩ := own_slice hv8
  simp only at hv8 ⊢
  have B8 := Lib.hid (BoxP.new (P := ⟨0, M2, tr2, 0, lf2⟩) hv8)
  rw [show (PlanR.mk 0 M2 tr2 0 lf2).hits.length = m2 from HM2.out.symm] at B8
  rw [← HM2.out]
  obtain ⟨W9, hW9⟩ : ∃ W9, w8.alloc (.cells #[.slice a8 m2 c8, .int .i64 tr2, .int .i64 0, .int .i64 lf2] 104) = W9 := ⟨_, rfl⟩
  obtain ⟨b8, hb8⟩ : ∃ b8, w8.heap.size = b8 := ⟨_, rfl⟩
  have o79 : Only (fun _ => False) W7 W9 := by rw [← hW9]; exact o8.alloc _
  have B8 := Lib.hid (show BoxP b8 W7.heap.size (.slice a8 m2 c8) ⟨0, M2, tr2, 0, lf2⟩ W9 from by
    rw [← hW9, ← hb8]
    exact B8.out)
  have B4' := Lib.hid (B4.out.keep (HO57.out.trans o79))
  have HO59 := Lib.hid (HO57.out.trans o79)
  have e0 := B4'.out.c0.cell
  have e1 := B4'.out.c1.cell
  have g0 := B8.out.c0.cell
  have g1 := B8.out.c1.cell
  simp only at e1 g1
  have ze := cell_lt e0
  have zg := cell_lt g0
  have u1 : decide (m2 < m) = false := by simp; omega
  have u1' : decide ((m2 : Int) < (m : Int)) = false := by simp; omega
  have u2 : decide (tr2 < tr) = false := by simp; omega
  clear hv8 o8 o79 y0 y1 y2 y3 y4 zy HCALL
  go_upto_region 15 with fail
  try rw [hW9]
  try simp only [hb8]
  clear hW9 hb8
  go_wp2_with fail
  go_loopw [17] (fun s17 wr => ∃ k : Nat, k ≤ m ∧ s17 = .int .i64 k ∧ Only (fun _ => False) W9 wr) (fun s17 _ => m - (intOf s17).toNat)
  case atStart => exact ⟨0, Nat.zero_le _, rfl, Only.refl _ _⟩
  case round =>
    obtain ⟨k, hk, rfl, ho⟩ := hrel
    have HO := Lib.hid ho
    have e0 := ho.cell e0 id
    have g0 := ho.cell g0 id
    have ze := cell_lt e0
    have zg := cell_lt g0
    by_cases hlt : k < m
    · have t1 : decide (k < m) = true := by simpa using hlt
      have i1 : (0 : Int) ≤ (k : Int) ∧ (k : Int) < (m : Int) := by omega
      have i2 : (0 : Int) ≤ (k : Int) ∧ (k : Int) < (m2 : Int) := by omega
      have t2 : decide (k < m2) = true := by simp; omega
      have wk : IntKind.i64.wrap ((k : Int) + 1) = (k : Int) + 1 := by rw [IntKind.wrap_i64]; omega
      obtain ⟨x, hx⟩ : ∃ x, M1[k]? = some x := ⟨_, List.getElem?_eq_getElem (by rw [← HV.out.2.2.2.2]; exact hlt)⟩
      obtain ⟨bq, hbx2, hle, hlast⟩ := HMM.out k x hx
      have hat1 : HitAt W9 a4 M1 := HitAt.of_slice (cap := c4) (by rw [← HV.out.2.2.2.2]; exact (show World.ownsRow _ _ _ _ _ M1.length _ from B4'.out.own) |> fun h => by rw [← HV.out.2.2.2.2] at h; exact h)
      have hat2 : HitAt W9 a8 M2 := HitAt.of_slice (cap := c8) (by rw [← HM2.out]; exact (show World.ownsRow _ _ _ _ _ M2.length _ from B8.out.own) |> fun h => by rw [← HM2.out] at h; exact h)
      obtain ⟨ga, oa, rfl, hga, a0, a1, a2, a3⟩ := (hat1.only ho (fun _ _ => id)) k x hx
      obtain ⟨gb, ob, rfl, hgb, b0, b1, b2, b3⟩ := (hat2.only ho (fun _ _ => id)) k _ hbx2
      obtain ⟨xi, xp, xq, xo⟩ := x
      simp only at a0 a1 a2 a3 b0 b1 b2 b3 hle hlast
      have s1 : (xi != xi) = false := by simp
      have s2 : (xp != xp) = false := by simp
      have s3 : (xo != xo) = false := by simp
      have s4 : decide (bq < xq) = false := by simp; omega
      clear hx hbx2 hat1 hat2 ho
      by_cases hq : xq = bq
      · have s5 : (xq != bq) = false := by simpa using hq
        subst hq
        clear hlast
        go_wp2_with fail
        go_roundw
        case rel => exact ⟨k + 1, by omega, by go_num, by (repeat' (first | (with_reducible exact Only.refl _ _) | (with_reducible assumption) | (refine Only.of_none ?_; with_reducible assumption) | (with_reducible refine Only.drewN ?_ _) | (with_reducible refine Only.drew ?_) | (with_reducible refine Only.alloc ?_ _) | (with_reducible refine Only.setCell ?_ ?_ _) | (with_reducible refine Only.then0 ?_ (by with_reducible assumption)) | (with_reducible refine Only.thenN ?_ (by with_reducible assumption) ?_) | (with_reducible refine Only.trans ?_ (by with_reducible assumption)) | (refine .inl ?_; first | rfl | (simp; done) | (simp [Ar.blk]; done)) | (refine .inr ?_; first | omega | (simp; done) | (simp; omega) | exact Only.size (by with_reducible assumption) | (refine Nat.le_trans (Only.size (by with_reducible assumption)) ?_; simp; done)))); all_goals exact HO.out⟩
        case measure => simp [intOf]; omega
      · have s5 : (xq != bq) = true := by simpa using hq
        have hl := hlast hq
        have s6 : decide ((k : Int) + 1 < (m : Int)) = false := by simp; omega
        clear hlast hq hl
        go_wp2_with fail
        go_roundw
        case rel => exact ⟨k + 1, by omega, by go_num, by (repeat' (first | (with_reducible exact Only.refl _ _) | (with_reducible assumption) | (refine Only.of_none ?_; with_reducible assumption) | (with_reducible refine Only.drewN ?_ _) | (with_reducible refine Only.drew ?_) | (with_reducible refine Only.alloc ?_ _) | (with_reducible refine Only.setCell ?_ ?_ _) | (with_reducible refine Only.then0 ?_ (by with_reducible assumption)) | (with_reducible refine Only.thenN ?_ (by with_reducible assumption) ?_) | (with_reducible refine Only.trans ?_ (by with_reducible assumption)) | (refine .inl ?_; first | rfl | (simp; done) | (simp [Ar.blk]; done)) | (refine .inr ?_; first | omega | (simp; done) | (simp; omega) | exact Only.size (by with_reducible assumption) | (refine Nat.le_trans (Only.size (by with_reducible assumption)) ?_; simp; done)))); all_goals exact HO.out⟩
        case measure => simp [intOf]; omega
    · have t1 : decide (k < m) = false := by simpa using hlt
      clear ho
      go_wp2_with fail
      go_returns
      exact ⟨rfl, HO3.out.trans (HO35.out.trans (HO59.out.trans HO.out))⟩

theorem planMore_walk (w : World) (a : Option Addr) (len cap : Nat) (rows : List (List Value)) (hs : SliceIn w a len cap [.i .i64, .i .i64, .i .u8, .i .i64, .i .i64] rows) (hlen : len * 40 ≤ 140737488351232) (cs : List Value) (hf : Fits [.i .i64, .i .u8, .i .u8, .i .i64, .i .i64] cs) (more : Int) (wfm : (Lit.int .i64 more).wf = true) (better : Int) (wfb : (Lit.int .i64 better).wf = true) :
    Calls Try.prog 12 #[.slice a len cap, .agg cs.toArray, .int .i64 more, .int .i64 better] w fun e w' => e = .returned (.bool true) ∧ Below w.heap.size w w' := by
  obtain ⟨ec, _, rfl, _, hf⟩ := fits_i hf
  obtain ⟨ek, _, rfl, _, hf⟩ := fits_i hf
  obtain ⟨es, _, rfl, _, hf⟩ := fits_i hf
  obtain ⟨ep, _, rfl, _, hf⟩ := fits_i hf
  obtain ⟨eq, _, rfl, _, hf⟩ := fits_i hf
  obtain rfl := fits_nil hf
  refine Calls.mono (R := fun e w' => e = .returned (.bool true) ∧ Only (fun _ => False) w w') ?_ (fun e w' h => ⟨h.1, h.2.below⟩)
  obtain ⟨L, hLl, hL, hwf⟩ := OrdIn.of_slice hs
  subst hLl
  exact planMore_yes w a cap L hL hwf (by omega) ec ek es ep eq more better wfm wfb
end Go.Proofs.Ytilngakgofjmpaa
