/- PlanKinds: the walk. No condition. -/
import Derived.Test.YtilngakgofjmpaaPkA
namespace Go.Proofs.Ytilngakgofjmpaa
set_option linter.unusedVariables false
set_option linter.unusedSimpArgs false
open Go.RowKit Go.Shelf
open Od (OrdR)
attribute [local go_sem] Oper.semAt_some

/-- Counted so far. -/
structure KdI (Wc : World) (fb : Nat) (s : List OrdR) (T : Nat → Prop) (A : World) : Prop where
  t : T = (· = fb)
  c : Cell A fb 0 (.int .i64 (s.length : Nat))
  only : Only (· = fb) Wc A

set_option maxRecDepth 100000 in
set_option maxHeartbeats 16000000 in
theorem planKinds_yes (w : World) (a : Option Addr) (cap : Nat) (L : List OrdR) (hL : OrdIn w a L) (hwf : ∀ o ∈ L, Wf o.i) (hl : L.length ≤ 1000000000000000) (ec ek0 es ep eq : Int) :
    Calls Try.prog 11 #[.slice a L.length cap, .agg #[.int .i64 ec, .int .u8 ek0, .int .u8 es, .int .i64 ep, .int .i64 eq]] w fun e w' => e = .returned (.bool true) ∧ Only (fun _ => False) w w' := by
  have HLD := Lib.hid fun W (o : Only (fun _ => False) w W) => (show Calls Try.prog 52 #[.int .i64 256, .int .i64 128, .slice a L.length cap] W (LaidPost W 128 256 L) from k_laid W 256 128 (by decide) (by decide) L a cap (hL.only o (fun _ _ => id)) hwf hl)
  obtain ⟨len, hlen⟩ : ∃ len, len = L.length := ⟨_, rfl⟩
  rw [← hlen] at HLD ⊢
  clear hL hwf hl hlen
  refine callsIn_wide.1 (callsIn_of_wp_marks (n := 0) Try.func11 rfl trivial (wpIn_wide.2 ?_) rfl)
  simp only [Try.ntmps11, List.size_toArray, List.length_cons, List.length_nil, Nat.reduceAdd, Nat.reduceSub, Array.replicate_succ, Array.replicate_zero, List.push_toArray, List.append_toArray, List.nil_append, List.cons_append]
  go_upto_region 1 with fail
  obtain ⟨W0, hW0⟩ : ∃ W0, w.alloc (.cells #[.int .i64 ec, .int .u8 ek0, .int .u8 es, .int .i64 ep, .int .i64 eq] 111) = W0 := ⟨_, rfl⟩
  obtain ⟨N0, hN0⟩ : ∃ N0, w.heap.size = N0 := ⟨_, rfl⟩
  have o0 : Only (fun _ => False) w W0 := by rw [← hW0]; exact (Only.refl _ w).alloc _
  have hE : ∀ (o : Nat) (v : Value), (#[.int .i64 ec, .int .u8 ek0, .int .u8 es, .int .i64 ep, .int .i64 eq] : Array Value)[o]? = some v → Cell W0 N0 o v := fun o v hv => by rw [← hW0, ← hN0]; exact Cell.new hv
  rw [hW0]
  simp only [hN0]
  have HN0 := Lib.hid hN0
  have H0 := Lib.hid (⟨o0, hE⟩ : _ ∧ _)
  clear hW0 hN0 o0 hE
  go_wp2_with fail
  refine (pworks_walk _).mono ?_
  rintro en w1 ⟨rfl, o1⟩
  have O1 := H0.out.1.trans o1
  have HO1 := Lib.hid O1
  have hN1 : N0 < w1.heap.size := by have h1 := o1.size; have h2 := (H0.out.2 0 _ rfl).lt; omega
  have HE1 := Lib.hid fun (j : Nat) (v : Value) (hv : (#[.int .i64 ec, .int .u8 ek0, .int .u8 es, .int .i64 ep, .int .i64 eq] : Array Value)[j]? = some v) => (H0.out.2 j v hv).only o1 id
  clear o1 O1
  go_wp2_with fail
  refine (HLD.out _ HO1.out).mono ?_
  intro en V0 hq
  obtain ⟨b, r, T, T6, rfl, hBP⟩ := hq
  have hgd := hBP.bk.good
  have o2 := hBP.only
  obtain ⟨l, hl⟩ : ∃ l, l = laidL 128 256 L := ⟨_, rfl⟩
  rw [← hl] at hBP hgd
  have hTN : ∀ i, T i → N0 < i := fun i hi => by have := (hBP.lo i hi).1; omega
  have HTLT := Lib.hid hBP.bk.lt
  have HGD := Lib.hid hgd
  have hV0 : N0 < V0.heap.size := by have := o2.size; omega
  have HBK := Lib.hid fun W (o : Only (· = N0) V0 W) => hBP.bk.only o (fun i hi e => by have := hTN i hi; omega)
  have HOF := Lib.hid fun W (o : Only (· = N0) V0 W) (e : EnR) => k_Of (HBK.out W o) e
  have HC := Lib.hid (⟨(HE1.out 0 _ rfl).only o2 id, (HE1.out 1 _ rfl).only o2 id, (HE1.out 2 _ rfl).only o2 id, (HE1.out 3 _ rfl).only o2 id, (HE1.out 4 _ rfl).only o2 id⟩ : _ ∧ _ ∧ _ ∧ _ ∧ _)
  have HOV := Lib.hid (HO1.out.trans o2)
  have HO := Lib.hid (Only.refl (· = N0) V0)
  clear hBP hgd hl HLD o2 HE1 HO1 H0 hTN hN1
  by_cases hmay : mayE ⟨ec, 3, es, ep, eq⟩ = true
  case neg =>
    have hpl := kind_not (most := 128) (room := 256) (l := l) (e := ⟨ec, 3, es, ep, eq⟩) (by simpa using hmay)
    have q1 := HC.out.2.1.cell
    have f1 := HC.out.2.1.free
    have zq := cell_lt q1
    obtain ⟨X1, hX⟩ : ∃ X, V0.setCell ⟨N0, 1, none⟩ (.int .u8 3) = X := ⟨_, rfl⟩
    have oS : Only (· = N0) V0 X1 := by rw [← hX]; exact (Only.refl (· = N0) _).setCell (.inl rfl) _
    have c0 : Cell X1 N0 0 (.int .i64 ec) := by rw [← hX]; exact HC.out.1.far (off_ne (by decide)) _
    have c1 : Cell X1 N0 1 (.int .u8 3) := by rw [← hX]; exact HC.out.2.1.set _
    have c2 : Cell X1 N0 2 (.int .u8 es) := by rw [← hX]; exact HC.out.2.2.1.far (off_ne (by decide)) _
    have c3 : Cell X1 N0 3 (.int .i64 ep) := by rw [← hX]; exact HC.out.2.2.2.1.far (off_ne (by decide)) _
    have c4 : Cell X1 N0 4 (.int .i64 eq) := by rw [← hX]; exact HC.out.2.2.2.2.far (off_ne (by decide)) _
    have HC := Lib.hid (⟨c0, c1, c2, c3, c4⟩ : _ ∧ _ ∧ _ ∧ _ ∧ _)
    have HSX := Lib.hid oS
    have HOX := Lib.hid (HO.out.trans oS)
    have hNX : N0 < X1.heap.size := c0.lt
    clear c0 c1 c2 c3 c4 oS
    go_upto_region 6 with fail
    try rw [hX]
    clear hX zq
    clear q1 f1
    have y0 := HC.out.1.cell
    have y1 := HC.out.2.1.cell
    have y2 := HC.out.2.2.1.cell
    have y3 := HC.out.2.2.2.1.cell
    have y4 := HC.out.2.2.2.2.cell
    have zy := cell_lt y0
    have HCALL := Lib.hid (HOF.out X1 HOX.out ⟨ec, 3, es, ep, eq⟩)
    unfold enV at HCALL
    simp only at HCALL
    rw [hpl] at HCALL
    clear hpl hmay
    go_wp2_with fail
    refine HCALL.out.mono ?_
    intro en w4 hq
    obtain ⟨v4, rfl, hv4, o4⟩ := hq
    unfold planV noPlan
    obtain ⟨a4, c4, rfl, _⟩ := own_slice hv4
    simp only [List.length_nil]
    have HO4 := Lib.hid o4
    clear hv4 y0 y1 y2 y3 y4 zy HCALL o4
    go_wp2_with fail
    refine leaves_marks [] _ (by simp) (fun E hE => by cases hE) (fun w' ho' => ?_)
    refine ⟨.bool true, by simp [results, Try.results11, go_sem], rfl, ?_⟩
    have hN := HN0.out
    exact ((HOV.out.trans' HOX.out (fun i h1 h2 => by omega)).trans (HO4.out.alloc _)).trans' ho' (fun i h1 h2 => nomatch h2)
  case pos =>
  obtain ⟨F, hF⟩ : ∃ F, F = facO l es ep := ⟨_, rfl⟩
  obtain ⟨lf, hlf⟩ : ∃ lf, lf = leftM ec eq F := ⟨_, rfl⟩
  obtain ⟨tr, htr⟩ : ∃ tr, tr = eq - lf := ⟨_, rfl⟩
  obtain ⟨M3, hM3⟩ : ∃ M3, M3 = meet ec eq F := ⟨_, rfl⟩
  obtain ⟨n, hn⟩ : ∃ n, n = F.length := ⟨_, rfl⟩
  have hpl3 := kind_now (most := 128) (room := 256) (l := l) (.inl rfl) hmay
  obtain ⟨e4, M4, t4, g4, hpl4, hf4, _⟩ := kind_all HGD.out (kind_may hmay (by decide) (by decide : (1 : Int) ≤ 4 ∧ (4 : Int) ≤ 5 ∧ (4 : Int) ≠ 2))
  obtain ⟨e5, M5, t5, r5, hpl5, hM5, hf5⟩ := kind_post (most := 128) (room := 256) (l := l) (kind_may hmay (by decide) (by decide : (1 : Int) ≤ 5 ∧ (5 : Int) ≤ 5 ∧ (5 : Int) ≠ 2))
  obtain ⟨e1, M1, t1, r1, hpl1, hf1⟩ := kind_limit (most := 128) (room := 256) (l := l) (kind_may hmay (by decide) (by decide : (1 : Int) ≤ 1 ∧ (1 : Int) ≤ 5 ∧ (1 : Int) ≠ 2))
  obtain ⟨M2, t2, g2, hpl2, ht2, hm2, hm2b, hmm⟩ := kind_more HGD.out hmay
  rw [← hF] at hpl3 hf4 hf5 hf1 ht2 hm2 hmm
  rw [← hlf] at hpl3 hf4 hf1 ht2
  rw [← htr] at hpl3 hf4 ht2
  rw [← hM3] at hpl3 hf1 hm2 hmm
  have hfl : n ≤ 256 := by
    have h1 := facO_len l es ep
    have h2 := HGD.out.len
    have h3 := HGD.out.small.1
    rw [← hF, ← hn] at h1; omega
  obtain ⟨m3, hm3⟩ : ∃ m, m = M3.length := ⟨_, rfl⟩
  obtain ⟨m4, hm4⟩ : ∃ m, m = M4.length := ⟨_, rfl⟩
  obtain ⟨m5, hm5⟩ : ∃ m, m = M5.length := ⟨_, rfl⟩
  obtain ⟨m1, hm1⟩ : ∃ m, m = M1.length := ⟨_, rfl⟩
  obtain ⟨m2, hm2'⟩ : ∃ m, m = M2.length := ⟨_, rfl⟩
  rw [← hm3, ← hm2'] at hm2
  rw [← hm2'] at hm2b
  have h50 : m5 = 0 := by rw [hm5, hM5]; rfl
  have hf5' : (e5 = 80 ∧ n ≠ 0) ∨ (e5 ≠ 80 ∧ n = 0) := by
    rcases hf5 with ⟨h1, h2⟩ | ⟨h1, h2⟩
    · exact .inl ⟨h1, fun h => h2 (List.length_eq_zero_iff.1 (by omega))⟩
    · exact .inr ⟨h1, by rw [hn, h2]; rfl⟩
  have HM3 := Lib.hid hm3
  have HM4 := Lib.hid hm4
  have HM5 := Lib.hid hm5
  have HM1 := Lib.hid hm1
  have HM2 := Lib.hid hm2'
  have HF := Lib.hid (⟨hF, hn⟩ : _ ∧ _)
  have HPL := Lib.hid (⟨hpl3, hpl4, hpl5, hpl1, hpl2⟩ : _ ∧ _ ∧ _ ∧ _ ∧ _)
  have HQ := Lib.hid (⟨hf4, hf5', h50, hf1, ht2, hm2, hm2b, hmm, hfl⟩ : _ ∧ _ ∧ _ ∧ _ ∧ _ ∧ _ ∧ _ ∧ _ ∧ _)
  clear hF hlf htr hM3 hn hpl3 hpl4 hf4 hpl5 hM5 hf5 hpl1 hf1 hpl2 ht2 hm2 hm2b hmm hfl hm3 hm4 hm5 hm1 hm2' h50 hf5' hmay
  have q1 := HC.out.2.1.cell
  have f1 := HC.out.2.1.free
  have zq := cell_lt q1
  obtain ⟨X1, hX⟩ : ∃ X, V0.setCell ⟨N0, 1, none⟩ (.int .u8 3) = X := ⟨_, rfl⟩
  have oS : Only (· = N0) V0 X1 := by rw [← hX]; exact (Only.refl (· = N0) _).setCell (.inl rfl) _
  have c0 : Cell X1 N0 0 (.int .i64 ec) := by rw [← hX]; exact HC.out.1.far (off_ne (by decide)) _
  have c1 : Cell X1 N0 1 (.int .u8 3) := by rw [← hX]; exact HC.out.2.1.set _
  have c2 : Cell X1 N0 2 (.int .u8 es) := by rw [← hX]; exact HC.out.2.2.1.far (off_ne (by decide)) _
  have c3 : Cell X1 N0 3 (.int .i64 ep) := by rw [← hX]; exact HC.out.2.2.2.1.far (off_ne (by decide)) _
  have c4 : Cell X1 N0 4 (.int .i64 eq) := by rw [← hX]; exact HC.out.2.2.2.2.far (off_ne (by decide)) _
  have HC := Lib.hid (⟨c0, c1, c2, c3, c4⟩ : _ ∧ _ ∧ _ ∧ _ ∧ _)
  have HSX := Lib.hid oS
  have HOX := Lib.hid (HO.out.trans oS)
  have hNX : N0 < X1.heap.size := c0.lt
  clear c0 c1 c2 c3 c4 oS
  go_upto_region 6 with fail
  try rw [hX]
  clear hX zq
  clear q1 f1
  have y0 := HC.out.1.cell
  have y1 := HC.out.2.1.cell
  have y2 := HC.out.2.2.1.cell
  have y3 := HC.out.2.2.2.1.cell
  have y4 := HC.out.2.2.2.2.cell
  have zy := cell_lt y0
  have HCALL := Lib.hid (HOF.out X1 HOX.out ⟨ec, 3, es, ep, eq⟩)
  unfold enV at HCALL
  simp only at HCALL
  rw [HPL.out.1] at HCALL
  go_wp2_with fail
  refine HCALL.out.mono ?_
  intro en w4 hq
  obtain ⟨v4, rfl, hv4, o4⟩ := hq
  unfold planV
  obtain ⟨a3, cp3, rfl, _⟩ := own_slice hv4
  simp only at hv4 ⊢
  rw [← HM3.out] at hv4 ⊢
  obtain ⟨V1, hV⟩ : ∃ V, w4.alloc (.cells #[.slice a3 m3 cp3, .int .i64 (tr), .int .i64 (0), .int .i64 (lf)] 104) = V := ⟨_, rfl⟩
  obtain ⟨b3, hb⟩ : ∃ b, w4.heap.size = b := ⟨_, rfl⟩
  have oX : Only (fun _ => False) X1 V1 := by rw [← hV]; exact o4.alloc _
  have P3 := Lib.hid (show PB N0 b3 a3 m3 cp3 M3 (tr) (0) (lf) V1 from by rw [← hV, ← hb]; exact PB.new hv4 HM3.out hNX o4.size)
  have HC := Lib.hid (⟨HC.out.1.only oX id, HC.out.2.1.only oX id, HC.out.2.2.1.only oX id, HC.out.2.2.2.1.only oX id, HC.out.2.2.2.2.only oX id⟩ : _ ∧ _ ∧ _ ∧ _ ∧ _)
  have HO := Lib.hid (HOX.out.trans' oX (fun i h1 h2 => h2.elim))
  clear hv4 o4 oX HOX HSX hNX y0 y1 y2 y3 y4 zy HCALL
  have HVB := Lib.hid (⟨hV, hb⟩ : _ ∧ _)
  clear hV hb
  go_upto_region 7 with fail
  rw [HVB.out.1]
  simp only [HVB.out.2]
  clear HVB
  have q1 := HC.out.2.1.cell
  have f1 := HC.out.2.1.free
  have zq := cell_lt q1
  obtain ⟨X2, hX⟩ : ∃ X, V1.setCell ⟨N0, 1, none⟩ (.int .u8 4) = X := ⟨_, rfl⟩
  have oS : Only (· = N0) V1 X2 := by rw [← hX]; exact (Only.refl (· = N0) _).setCell (.inl rfl) _
  have c0 : Cell X2 N0 0 (.int .i64 ec) := by rw [← hX]; exact HC.out.1.far (off_ne (by decide)) _
  have c1 : Cell X2 N0 1 (.int .u8 4) := by rw [← hX]; exact HC.out.2.1.set _
  have c2 : Cell X2 N0 2 (.int .u8 es) := by rw [← hX]; exact HC.out.2.2.1.far (off_ne (by decide)) _
  have c3 : Cell X2 N0 3 (.int .i64 ep) := by rw [← hX]; exact HC.out.2.2.2.1.far (off_ne (by decide)) _
  have c4 : Cell X2 N0 4 (.int .i64 eq) := by rw [← hX]; exact HC.out.2.2.2.2.far (off_ne (by decide)) _
  have HC := Lib.hid (⟨c0, c1, c2, c3, c4⟩ : _ ∧ _ ∧ _ ∧ _ ∧ _)
  have HSX := Lib.hid oS
  have HOX := Lib.hid (HO.out.trans oS)
  have hNX : N0 < X2.heap.size := c0.lt
  clear c0 c1 c2 c3 c4 oS
  go_upto_region 10 with fail
  try rw [hX]
  clear hX zq
  clear q1 f1
  have y0 := HC.out.1.cell
  have y1 := HC.out.2.1.cell
  have y2 := HC.out.2.2.1.cell
  have y3 := HC.out.2.2.2.1.cell
  have y4 := HC.out.2.2.2.2.cell
  have zy := cell_lt y0
  have HCALL := Lib.hid (HOF.out X2 HOX.out ⟨ec, 4, es, ep, eq⟩)
  unfold enV at HCALL
  simp only at HCALL
  rw [HPL.out.2.1] at HCALL
  go_wp2_with fail
  refine HCALL.out.mono ?_
  intro en w4 hq
  obtain ⟨v4, rfl, hv4, o4⟩ := hq
  unfold planV
  obtain ⟨a4, cp4, rfl, _⟩ := own_slice hv4
  simp only at hv4 ⊢
  rw [← HM4.out] at hv4 ⊢
  obtain ⟨V2, hV⟩ : ∃ V, w4.alloc (.cells #[.slice a4 m4 cp4, .int .i64 (t4), .int .i64 (0), .int .i64 (g4)] 104) = V := ⟨_, rfl⟩
  obtain ⟨b4, hb⟩ : ∃ b, w4.heap.size = b := ⟨_, rfl⟩
  have oX : Only (fun _ => False) X2 V2 := by rw [← hV]; exact o4.alloc _
  have P4 := Lib.hid (show PB N0 b4 a4 m4 cp4 M4 (t4) (0) (g4) V2 from by rw [← hV, ← hb]; exact PB.new hv4 HM4.out hNX o4.size)
  have HC := Lib.hid (⟨HC.out.1.only oX id, HC.out.2.1.only oX id, HC.out.2.2.1.only oX id, HC.out.2.2.2.1.only oX id, HC.out.2.2.2.2.only oX id⟩ : _ ∧ _ ∧ _ ∧ _ ∧ _)
  have HO := Lib.hid (HOX.out.trans' oX (fun i h1 h2 => h2.elim))
  have P3 := Lib.hid ((P3.out.step HSX.out (fun i h e => by omega)).step oX (fun _ _ => id))
  clear hv4 o4 oX HOX HSX hNX y0 y1 y2 y3 y4 zy HCALL
  have HVB := Lib.hid (⟨hV, hb⟩ : _ ∧ _)
  clear hV hb
  go_upto_region 11 with fail
  rw [HVB.out.1]
  simp only [HVB.out.2]
  clear HVB
  have q1 := HC.out.2.1.cell
  have f1 := HC.out.2.1.free
  have zq := cell_lt q1
  obtain ⟨X3, hX⟩ : ∃ X, V2.setCell ⟨N0, 1, none⟩ (.int .u8 5) = X := ⟨_, rfl⟩
  have oS : Only (· = N0) V2 X3 := by rw [← hX]; exact (Only.refl (· = N0) _).setCell (.inl rfl) _
  have c0 : Cell X3 N0 0 (.int .i64 ec) := by rw [← hX]; exact HC.out.1.far (off_ne (by decide)) _
  have c1 : Cell X3 N0 1 (.int .u8 5) := by rw [← hX]; exact HC.out.2.1.set _
  have c2 : Cell X3 N0 2 (.int .u8 es) := by rw [← hX]; exact HC.out.2.2.1.far (off_ne (by decide)) _
  have c3 : Cell X3 N0 3 (.int .i64 ep) := by rw [← hX]; exact HC.out.2.2.2.1.far (off_ne (by decide)) _
  have c4 : Cell X3 N0 4 (.int .i64 eq) := by rw [← hX]; exact HC.out.2.2.2.2.far (off_ne (by decide)) _
  have HC := Lib.hid (⟨c0, c1, c2, c3, c4⟩ : _ ∧ _ ∧ _ ∧ _ ∧ _)
  have HSX := Lib.hid oS
  have HOX := Lib.hid (HO.out.trans oS)
  have hNX : N0 < X3.heap.size := c0.lt
  clear c0 c1 c2 c3 c4 oS
  go_upto_region 12 with fail
  try rw [hX]
  clear hX zq
  clear q1 f1
  have y0 := HC.out.1.cell
  have y1 := HC.out.2.1.cell
  have y2 := HC.out.2.2.1.cell
  have y3 := HC.out.2.2.2.1.cell
  have y4 := HC.out.2.2.2.2.cell
  have zy := cell_lt y0
  have HCALL := Lib.hid (HOF.out X3 HOX.out ⟨ec, 5, es, ep, eq⟩)
  unfold enV at HCALL
  simp only at HCALL
  rw [HPL.out.2.2.1] at HCALL
  go_wp2_with fail
  refine HCALL.out.mono ?_
  intro en w4 hq
  obtain ⟨v4, rfl, hv4, o4⟩ := hq
  unfold planV
  obtain ⟨a5, cp5, rfl, _⟩ := own_slice hv4
  simp only at hv4 ⊢
  rw [← HM5.out] at hv4 ⊢
  obtain ⟨V3, hV⟩ : ∃ V, w4.alloc (.cells #[.slice a5 m5 cp5, .int .i64 (t5), .int .i64 (r5), .int .i64 (0)] 104) = V := ⟨_, rfl⟩
  obtain ⟨b5, hb⟩ : ∃ b, w4.heap.size = b := ⟨_, rfl⟩
  have oX : Only (fun _ => False) X3 V3 := by rw [← hV]; exact o4.alloc _
  have P5 := Lib.hid (show PB N0 b5 a5 m5 cp5 M5 (t5) (r5) (0) V3 from by rw [← hV, ← hb]; exact PB.new hv4 HM5.out hNX o4.size)
  have HC := Lib.hid (⟨HC.out.1.only oX id, HC.out.2.1.only oX id, HC.out.2.2.1.only oX id, HC.out.2.2.2.1.only oX id, HC.out.2.2.2.2.only oX id⟩ : _ ∧ _ ∧ _ ∧ _ ∧ _)
  have HO := Lib.hid (HOX.out.trans' oX (fun i h1 h2 => h2.elim))
  have P3 := Lib.hid ((P3.out.step HSX.out (fun i h e => by omega)).step oX (fun _ _ => id))
  have P4 := Lib.hid ((P4.out.step HSX.out (fun i h e => by omega)).step oX (fun _ _ => id))
  clear hv4 o4 oX HOX HSX hNX y0 y1 y2 y3 y4 zy HCALL
  have HVB := Lib.hid (⟨hV, hb⟩ : _ ∧ _)
  clear hV hb
  go_upto_region 13 with fail
  rw [HVB.out.1]
  simp only [HVB.out.2]
  clear HVB
  have q1 := HC.out.2.1.cell
  have f1 := HC.out.2.1.free
  have zq := cell_lt q1
  obtain ⟨X4, hX⟩ : ∃ X, V3.setCell ⟨N0, 1, none⟩ (.int .u8 1) = X := ⟨_, rfl⟩
  have oS : Only (· = N0) V3 X4 := by rw [← hX]; exact (Only.refl (· = N0) _).setCell (.inl rfl) _
  have c0 : Cell X4 N0 0 (.int .i64 ec) := by rw [← hX]; exact HC.out.1.far (off_ne (by decide)) _
  have c1 : Cell X4 N0 1 (.int .u8 1) := by rw [← hX]; exact HC.out.2.1.set _
  have c2 : Cell X4 N0 2 (.int .u8 es) := by rw [← hX]; exact HC.out.2.2.1.far (off_ne (by decide)) _
  have c3 : Cell X4 N0 3 (.int .i64 ep) := by rw [← hX]; exact HC.out.2.2.2.1.far (off_ne (by decide)) _
  have c4 : Cell X4 N0 4 (.int .i64 eq) := by rw [← hX]; exact HC.out.2.2.2.2.far (off_ne (by decide)) _
  have HC := Lib.hid (⟨c0, c1, c2, c3, c4⟩ : _ ∧ _ ∧ _ ∧ _ ∧ _)
  have HSX := Lib.hid oS
  have HOX := Lib.hid (HO.out.trans oS)
  have hNX : N0 < X4.heap.size := c0.lt
  clear c0 c1 c2 c3 c4 oS
  go_upto_region 14 with fail
  try rw [hX]
  clear hX zq
  clear q1 f1
  have y0 := HC.out.1.cell
  have y1 := HC.out.2.1.cell
  have y2 := HC.out.2.2.1.cell
  have y3 := HC.out.2.2.2.1.cell
  have y4 := HC.out.2.2.2.2.cell
  have zy := cell_lt y0
  have HCALL := Lib.hid (HOF.out X4 HOX.out ⟨ec, 1, es, ep, eq⟩)
  unfold enV at HCALL
  simp only at HCALL
  rw [HPL.out.2.2.2.1] at HCALL
  go_wp2_with fail
  refine HCALL.out.mono ?_
  intro en w4 hq
  obtain ⟨v4, rfl, hv4, o4⟩ := hq
  unfold planV
  obtain ⟨a1, cp1, rfl, _⟩ := own_slice hv4
  simp only at hv4 ⊢
  rw [← HM1.out] at hv4 ⊢
  obtain ⟨V4, hV⟩ : ∃ V, w4.alloc (.cells #[.slice a1 m1 cp1, .int .i64 (t1), .int .i64 (r1), .int .i64 (0)] 104) = V := ⟨_, rfl⟩
  obtain ⟨b1, hb⟩ : ∃ b, w4.heap.size = b := ⟨_, rfl⟩
  have oX : Only (fun _ => False) X4 V4 := by rw [← hV]; exact o4.alloc _
  have P1 := Lib.hid (show PB N0 b1 a1 m1 cp1 M1 (t1) (r1) (0) V4 from by rw [← hV, ← hb]; exact PB.new hv4 HM1.out hNX o4.size)
  have HC := Lib.hid (⟨HC.out.1.only oX id, HC.out.2.1.only oX id, HC.out.2.2.1.only oX id, HC.out.2.2.2.1.only oX id, HC.out.2.2.2.2.only oX id⟩ : _ ∧ _ ∧ _ ∧ _ ∧ _)
  have HO := Lib.hid (HOX.out.trans' oX (fun i h1 h2 => h2.elim))
  have P3 := Lib.hid ((P3.out.step HSX.out (fun i h e => by omega)).step oX (fun _ _ => id))
  have P4 := Lib.hid ((P4.out.step HSX.out (fun i h e => by omega)).step oX (fun _ _ => id))
  have P5 := Lib.hid ((P5.out.step HSX.out (fun i h e => by omega)).step oX (fun _ _ => id))
  clear hv4 o4 oX HOX HSX hNX y0 y1 y2 y3 y4 zy HCALL
  have HVB := Lib.hid (⟨hV, hb⟩ : _ ∧ _)
  clear hV hb
  go_upto_region 15 with fail
  rw [HVB.out.1]
  simp only [HVB.out.2]
  clear HVB
  have q1 := HC.out.2.1.cell
  have f1 := HC.out.2.1.free
  have q3 := HC.out.2.2.2.1.cell
  have f3 := HC.out.2.2.2.1.free
  have zq := cell_lt q1
  obtain ⟨X5, hX⟩ : ∃ X, (V4.setCell ⟨N0, 1, none⟩ (.int .u8 2)).setCell ⟨N0, 3, none⟩ (.int .i64 0) = X := ⟨_, rfl⟩
  have oS : Only (· = N0) V4 X5 := by rw [← hX]; exact ((Only.refl (· = N0) _).setCell (.inl rfl) _).setCell (.inl rfl) _
  have c0 : Cell X5 N0 0 (.int .i64 ec) := by rw [← hX]; exact (HC.out.1.far (off_ne (by decide)) _).far (off_ne (by decide)) _
  have c1 : Cell X5 N0 1 (.int .u8 2) := by rw [← hX]; exact (HC.out.2.1.set _).far (off_ne (by decide)) _
  have c2 : Cell X5 N0 2 (.int .u8 es) := by rw [← hX]; exact (HC.out.2.2.1.far (off_ne (by decide)) _).far (off_ne (by decide)) _
  have c3 : Cell X5 N0 3 (.int .i64 0) := by rw [← hX]; exact (HC.out.2.2.2.1.far (off_ne (by decide)) _).set _
  have c4 : Cell X5 N0 4 (.int .i64 eq) := by rw [← hX]; exact (HC.out.2.2.2.2.far (off_ne (by decide)) _).far (off_ne (by decide)) _
  have HC := Lib.hid (⟨c0, c1, c2, c3, c4⟩ : _ ∧ _ ∧ _ ∧ _ ∧ _)
  have HSX := Lib.hid oS
  have HOX := Lib.hid (HO.out.trans oS)
  have hNX : N0 < X5.heap.size := c0.lt
  clear c0 c1 c2 c3 c4 oS
  go_upto_region 18 with fail
  try rw [hX]
  clear hX zq
  clear q1 f1 q3 f3
  have y0 := HC.out.1.cell
  have y1 := HC.out.2.1.cell
  have y2 := HC.out.2.2.1.cell
  have y3 := HC.out.2.2.2.1.cell
  have y4 := HC.out.2.2.2.2.cell
  have zy := cell_lt y0
  have HCALL := Lib.hid (HOF.out X5 HOX.out ⟨ec, 2, es, 0, eq⟩)
  unfold enV at HCALL
  simp only at HCALL
  rw [HPL.out.2.2.2.2] at HCALL
  go_wp2_with fail
  refine HCALL.out.mono ?_
  intro en w4 hq
  obtain ⟨v4, rfl, hv4, o4⟩ := hq
  unfold planV
  obtain ⟨a2, cp2, rfl, _⟩ := own_slice hv4
  simp only at hv4 ⊢
  rw [← HM2.out] at hv4 ⊢
  obtain ⟨V5, hV⟩ : ∃ V, w4.alloc (.cells #[.slice a2 m2 cp2, .int .i64 (t2), .int .i64 (0), .int .i64 (g2)] 104) = V := ⟨_, rfl⟩
  obtain ⟨b2, hb⟩ : ∃ b, w4.heap.size = b := ⟨_, rfl⟩
  have oX : Only (fun _ => False) X5 V5 := by rw [← hV]; exact o4.alloc _
  have P2 := Lib.hid (show PB N0 b2 a2 m2 cp2 M2 (t2) (0) (g2) V5 from by rw [← hV, ← hb]; exact PB.new hv4 HM2.out hNX o4.size)
  have HC := Lib.hid (⟨HC.out.1.only oX id, HC.out.2.1.only oX id, HC.out.2.2.1.only oX id, HC.out.2.2.2.1.only oX id, HC.out.2.2.2.2.only oX id⟩ : _ ∧ _ ∧ _ ∧ _ ∧ _)
  have HO := Lib.hid (HOX.out.trans' oX (fun i h1 h2 => h2.elim))
  have P3 := Lib.hid ((P3.out.step HSX.out (fun i h e => by omega)).step oX (fun _ _ => id))
  have P4 := Lib.hid ((P4.out.step HSX.out (fun i h e => by omega)).step oX (fun _ _ => id))
  have P5 := Lib.hid ((P5.out.step HSX.out (fun i h e => by omega)).step oX (fun _ _ => id))
  have P1 := Lib.hid ((P1.out.step HSX.out (fun i h e => by omega)).step oX (fun _ _ => id))
  clear hv4 o4 oX HOX HSX hNX y0 y1 y2 y3 y4 zy HCALL
  have HVB := Lib.hid (⟨hV, hb⟩ : _ ∧ _)
  clear hV hb
  go_upto_region 19 with fail
  rw [HVB.out.1]
  simp only [HVB.out.2]
  clear HVB
  obtain ⟨fb, hfb⟩ : ∃ fb, V5.heap.size = fb := ⟨_, rfl⟩
  obtain ⟨Y, hY⟩ : ∃ Y, V5.alloc (.cells #[.int .i64 0] 3) = Y := ⟨_, rfl⟩
  have oY : Only (fun _ => False) V5 Y := by rw [← hY]; exact (Only.refl _ _).alloc _
  have cf : Cell Y fb 0 (.int .i64 0) := by rw [← hY, ← hfb]; exact Cell.new rfl
  have y2 := (HC.out.2.2.1.only oY id).cell
  have zy := cell_lt y2
  have zf := cf.lt
  have HCF := Lib.hid cf
  have HY := Lib.hid oY
  have hNf : N0 < fb := by have := HC.out.1.lt; omega
  clear oY cf
  have HFB := Lib.hid hfb
  have HYY := Lib.hid hY
  clear hfb hY
  have hzV := HO.out.size
  have hVf : V0.heap.size ≤ fb := by have := HFB.out; omega
  go_upto_region 20 with fail
  rw [HYY.out]
  simp only [HFB.out]
  clear HYY
  go_wp2_with fail
  refine (k_facing _ b es ep).mono ?_
  intro en Wc hp
  obtain ⟨Bs, Bb, Bl, rfl, oc, cs, cb, cl, gs, gb, gl'⟩ := hp
  have hszc := oc.size
  have oVc := HY.out.trans oc
  have OBK := HO.out.trans' oVc (fun i h1 h2 => h2.elim)
  have HSEQ := Lib.hid (bk_fac_iter (HBK.out Wc OBK) es ep cs cb cl)
  rw [← HF.out.1] at HSEQ
  have HKB := Lib.hid (⟨cs.lt, cb.lt, cl.lt⟩ : _ ∧ _ ∧ _)
  have HCc := Lib.hid (HCF.out.only oc id)
  have HVc := Lib.hid oVc
  have hlt : ∀ i, T i → i < fb := fun i hi => by have := HTLT.out i hi; omega
  clear cs cb cl oc oVc OBK y2 zy HCF HY
  go_wp2_with fail
  refine (wpIn_wide (n := 0)).1 ?_
  refine rangeT (gf := 140) (lb := #[.pointer (some ⟨Bs, 0, none⟩), .pointer (some ⟨Bb, 0, none⟩), .pointer (some ⟨Bl, 0, none⟩)]) rfl (enters_of Try.func140 (by kernel_rfl) rfl)
    HSEQ.out (fun _ => rfl) (Nat.le_refl _) (KeepB.refl _ _) ?hK
    (KdI Wc fb) (fun _ _ _ _ => False) (· = fb) ?hT ?hI (fun _ _ _ _ _ _ h _ _ => h.elim) ⟨rfl, HCc.out, Only.refl _ _⟩ ?round ?done ?stop
  case hK =>
    rintro i (hi | rfl | rfl | rfl)
    · have := hlt i hi; omega
    · exact HKB.out.1
    · exact HKB.out.2.1
    · exact HKB.out.2.2
  case hT =>
    rintro s T' A ⟨rfl, h4, ho⟩ i rfl
    refine ⟨?_, h4.lt⟩
    rintro (hk | hk | hk | hk)
    · have := hlt _ hk; omega
    all_goals omega
  case hI =>
    rintro s T' A B S ⟨rfl, h4, ho⟩ hAB hS
    exact ⟨rfl, h4.only hAB (fun h => (hS _ h).1 rfl), ho.trans' hAB (fun i h1 h2 => by have := (hS i h2).2; omega)⟩
  case round =>
    intro l1 s T' x A hl1 hszA hrec hTl hi hpre
    have hsl : s.length + 1 ≤ 256 := by
      have h1 := hpre.length_le
      have h2 := HF.out.2
      have h3 := HQ.out.2.2.2.2.2.2.2.2
      simp only [List.length_append, List.length_cons, List.length_nil] at h1
      omega
    obtain ⟨oi, oc, os, op, oq⟩ := x
    unfold encO ordV
    gi_wp2
    refine ⟨Only.refl _ A, fun A1 hi1 o1 hr1 => ?_⟩
    obtain ⟨rfl, k4, ho⟩ := hi1
    obtain ⟨j, hj⟩ : ∃ j, j = s.length := ⟨_, rfl⟩
    rw [← hj] at k4 hsl
    have ww : IntKind.i64.wrap ((j : Int) + 1) = (j : Int) + 1 := by rw [IntKind.wrap_i64]; omega
    have q4 := k4.cell
    have z4 := cell_lt q4
    have f4 := k4.free
    have KO := (Only.refl (· = fb) A1).setCell (p := ⟨fb, 0, none⟩) (.inl rfl) (.int .i64 ((j : Int) + 1))
    have HX := Lib.hid (⟨k4, KO, ho, hj⟩ : _ ∧ _ ∧ _ ∧ _)
    clear hi o1 hr1 hrec hpre k4 ho hj KO
    gi_wp2
    obtain ⟨k4, KO, ho, hj⟩ := HX.out
    refine ⟨_, ⟨KO, fun i hi => .inl hi⟩, ⟨rfl, ?_, ho.trans KO⟩⟩
    rw [show (((s ++ [(⟨oi, oc, os, op, oq⟩ : OrdR)]).length : Nat) : Int) = (j : Int) + 1 by rw [List.length_append, ← hj]; simp]
    exact k4.set _
  case stop => exact fun _ _ _ _ _ _ _ h => h.elim
  case done =>
  intro D1 T' B1 hD hi hTD hdd
  obtain ⟨rfl, k4, ho⟩ := hi
  rw [← HF.out.2] at k4
  have hfv := HFB.out
  have oVB : Only (fun _ => False) V5 B1 := HVc.out.trans' ho (fun i h1 h2 => by omega)
  have P3 := Lib.hid (P3.out.step oVB (fun _ _ => id))
  have P4 := Lib.hid (P4.out.step oVB (fun _ _ => id))
  have P5 := Lib.hid (P5.out.step oVB (fun _ _ => id))
  have P1 := Lib.hid (P1.out.step oVB (fun _ _ => id))
  have P2 := Lib.hid (P2.out.step oVB (fun _ _ => id))
  have HOB := Lib.hid (show Only (fun _ => False) w B1 from (HOV.out.trans' HO.out (fun i h1 h2 => by have := HN0.out; omega)).trans oVB)
  have hDw : w.heap.size ≤ D1 := by
    have h1 := HVc.out.size
    have h2 := HO.out.size
    have h3 := HOV.out.size
    have h4 : Wc.heap.size ≤ D1 := hD
    omega
  have hDl : D1 < B1.heap.size := (Array.getElem?_eq_some_iff.1 hdd).1
  have HDD := Lib.hid hdd
  have HK4 := Lib.hid k4
  clear oVB ho hdd hTD HSEQ HKB HVc HC HO HOV HBK HOF hD k4 HCc
  go_upto_region 22 with fail
  have x4a := P4.out.c1.cell
  have x3a := P3.out.c1.cell
  have x3b := P3.out.c3.cell
  have zx4 := cell_lt x4a
  have zx3 := cell_lt x3a
  go_cut [20] from 87 to 109 (fun s20 wx => s20 = .bool true ∧ wx = B1)
  case first =>
    rcases HQ.out.1 with ⟨rfl, ht, hz⟩ | ⟨rfl, hp⟩
    · have v1 : (t4 == tr) = true := by simpa using ht
      have v2 : (lf == 0) = true := by simpa using hz
      clear ht hz
      go_wp2_with fail
      go_meet
      exact ⟨rfl, rfl⟩
    · have v1 : decide (0 < lf) = true := by simpa using hp
      clear hp
      go_wp2_with fail
      go_meet
      exact ⟨rfl, rfl⟩
  case rest =>
  obtain ⟨rfl, hwc⟩ := hcut
  obtain ⟨B2, hB2⟩ : ∃ W, W = wc := ⟨_, rfl⟩
  rw [← hB2] at hwc ⊢
  subst hwc
  clear hB2 x4a x3a x3b zx4 zx3
  go_upto_region 23 with fail
  have x5 := P5.out.c0.cell
  have zx5 := cell_lt x5
  have xf := HK4.out.cell
  have zxf := cell_lt xf
  go_cut [21] from 110 to 129 (fun s21 wx => s21 = .bool true ∧ wx = B2)
  case first =>
    have h50 := HQ.out.2.2.1
    have v5 : ((m5 : Int) == 0) = true := by simp; omega
    rcases HQ.out.2.1 with ⟨rfl, hn⟩ | ⟨he, hn⟩
    · have v1 : decide (0 < n) = true := by simp; omega
      have v1' : decide ((0 : Int) < (n : Int)) = true := by simp; omega
      clear h50 hn
      go_wp2_with fail
      go_meet
      exact ⟨rfl, rfl⟩
    · have v1 : (e5 == 80) = false := by simpa using he
      have v2 : (e5 != 80) = true := by simpa using he
      have v3 : ((n : Int) == 0) = true := by simp; omega
      clear h50 hn he
      go_wp2_with fail
      go_meet
      exact ⟨rfl, rfl⟩
  case rest =>
  obtain ⟨rfl, hwc⟩ := hcut
  obtain ⟨B3, hB3⟩ : ∃ W, W = wc := ⟨_, rfl⟩
  rw [← hB3] at hwc ⊢
  subst hwc
  clear hB3 x5 zx5 xf zxf
  go_upto_region 24 with fail
  have x1 := P1.out.c0.cell
  have x3 := P3.out.c0.cell
  have zx1 := cell_lt x1
  have zx3 := cell_lt x3
  have HCALL := Lib.hid (k_sameH_kinds B3 M1 M3 a1 a3 cp1 cp3 (by have h1 := HQ.out.2.2.2.2.2.1; have h2 := HQ.out.2.2.2.2.2.2.1; rw [← HM3.out]; omega) (by rcases HQ.out.2.2.2.1 with ⟨_, _, h⟩ | ⟨_, h, _⟩; all_goals first | exact .inl h | exact .inr h) P1.out.hits P3.out.hits)
  rw [← HM1.out, ← HM3.out] at HCALL
  go_wp2_with fail
  refine HCALL.out.mono ?_
  rintro en W7 ⟨hx, rfl, hxt, o7⟩
  have P3 := Lib.hid (P3.out.step o7 (fun _ _ => id))
  have P1 := Lib.hid (P1.out.step o7 (fun _ _ => id))
  have P2 := Lib.hid (P2.out.step o7 (fun _ _ => id))
  have HOB := Lib.hid (HOB.out.trans o7)
  have HDD := Lib.hid ((o7.block _ hDl id).trans HDD.out)
  have hDl7 : D1 < W7.heap.size := by have := o7.size; omega
  have HXT := Lib.hid hxt
  clear x1 x3 zx1 zx3 HCALL o7 hxt P4 P5 HK4
  go_upto_region 25 with fail
  have x1 := P1.out.c2.cell
  have x3 := P3.out.c3.cell
  have zx1 := cell_lt x1
  have zx3 := cell_lt x3
  go_cut [23] from 135 to 154 (fun s23 wx => s23 = .bool true ∧ wx = W7)
  case first =>
    rcases HQ.out.2.2.2.1 with ⟨_, he, _⟩ | ⟨rfl, hM, hr⟩
    · rcases he with rfl | rfl
      · go_wp2_with fail
        go_meet
        exact ⟨rfl, rfl⟩
      · go_wp2_with fail
        go_meet
        exact ⟨rfl, rfl⟩
    · obtain rfl := HXT.out hM
      have v1 : (r1 == lf) = true := by simpa using hr
      clear hM hr
      go_wp2_with fail
      go_meet
      exact ⟨rfl, rfl⟩
  case rest =>
  obtain ⟨rfl, hwc⟩ := hcut
  obtain ⟨W8, hW8⟩ : ∃ W, W = wc := ⟨_, rfl⟩
  rw [← hW8] at hwc ⊢
  subst hwc
  clear hW8 x1 x3 zx1 zx3
  obtain ⟨hf4, hf5, h50, hf1, ht2, hm2, hm2b, hmm, hfl⟩ := HQ.out
  have HMM := Lib.hid hmm
  clear hf4 hf5 h50 hf1 hmm hfl HQ
  have e0 := P3.out.c0.cell
  have e1_ := P3.out.c1.cell
  have g0 := P2.out.c0.cell
  have g1 := P2.out.c1.cell
  have ze := cell_lt e0
  have zg := cell_lt g0
  have u1 : decide (m3 ≤ m2) = true := by simp; omega
  have u1' : decide ((m3 : Int) ≤ (m2 : Int)) = true := by simp; omega
  have u2 : decide (tr ≤ t2) = true := by simp; omega
  go_wp2_with fail
  go_loopw [24, 25] (fun s24 s25 wr => s24 = .bool true ∧ ∃ k : Nat, k ≤ m3 ∧ s25 = .int .i64 k ∧ Only (fun _ => False) W8 wr) (fun _ s25 _ => m3 - (intOf s25).toNat)
  case atStart => exact ⟨rfl, 0, Nat.zero_le _, rfl, Only.refl _ _⟩
  case round =>
    obtain ⟨rfl, k, hk, rfl, ho⟩ := hrel
    have HO := Lib.hid ho
    have e0 := ho.cell e0 id
    have g0 := ho.cell g0 id
    have e1_ := ho.cell e1_ id
    have g1 := ho.cell g1 id
    have ze := cell_lt e0
    have zg := cell_lt g0
    have wk : IntKind.i64.wrap ((k : Int) + 1) = (k : Int) + 1 := by rw [IntKind.wrap_i64]; omega
    by_cases hlt : k + 1 < m3
    · have y1 : decide ((k : Int) + 1 < (m3 : Int)) = true := by simp; omega
      have i1 : (0 : Int) ≤ (k : Int) ∧ (k : Int) < (m3 : Int) := by omega
      have i2 : (0 : Int) ≤ (k : Int) ∧ (k : Int) < (m2 : Int) := by omega
      have y2 : decide (k < m2) = true := by simp; omega
      have y3 : decide (k < m3) = true := by simp; omega
      obtain ⟨x, hx⟩ : ∃ x, M3[k]? = some x := ⟨_, List.getElem?_eq_getElem (by rw [← HM3.out]; omega)⟩
      obtain ⟨ga, oa, rfl, hga, a0, a1, a2, a3⟩ := (P3.out.hits.only ho (fun _ _ => id)) k x hx
      obtain ⟨gb, ob, rfl, hgb, b0, b1, b2, b3⟩ := (P2.out.hits.only ho (fun _ _ => id)) k x (HMM.out k x hx)
      obtain ⟨xi, xp, xq, xo⟩ := x
      simp only at a0 a1 a2 a3 b0 b1 b2 b3
      clear hx ho
      go_wp2_with fail
      go_quiet (fail)
      go_wp2_with fail
      go_roundw
      case rel => exact ⟨rfl, k + 1, by omega, by go_num, by (repeat' (first | (with_reducible exact Only.refl _ _) | (with_reducible assumption) | (refine Only.of_none ?_; with_reducible assumption) | (with_reducible refine Only.drewN ?_ _) | (with_reducible refine Only.drew ?_) | (with_reducible refine Only.alloc ?_ _) | (with_reducible refine Only.setCell ?_ ?_ _) | (with_reducible refine Only.then0 ?_ (by with_reducible assumption)) | (with_reducible refine Only.thenN ?_ (by with_reducible assumption) ?_) | (with_reducible refine Only.trans ?_ (by with_reducible assumption)) | (refine .inl ?_; first | rfl | (simp; done) | (simp [Ar.blk]; done)) | (refine .inr ?_; first | omega | (simp; done) | (simp; omega) | exact Only.size (by with_reducible assumption) | (refine Nat.le_trans (Only.size (by with_reducible assumption)) ?_; simp; done)))); all_goals exact HO.out⟩
      case measure => simp [intOf]; omega
    · have y1 : decide ((k : Int) + 1 < (m3 : Int)) = false := by simp; omega
      clear ho
      go_wp2_with fail
      refine leaves_marks [D1] _ (by simp) (fun E hE => ?_) (fun w' ho' => ?_)
      · simp only [List.mem_cons, List.mem_nil_iff, or_false] at hE
        subst hE
        exact (HO.out.block _ hDl7 id).trans HDD.out
      · refine ⟨.bool true, by simp [results, Try.results11, go_sem], rfl, ?_⟩
        refine (HOB.out.trans HO.out).trans' ho' (fun i h1 h2 => ?_)
        simp only [List.mem_cons, List.mem_nil_iff, or_false] at h2
        omega

theorem planKinds_walk (w : World) (a : Option Addr) (len cap : Nat) (rows : List (List Value)) (hs : SliceIn w a len cap [.i .i64, .i .i64, .i .u8, .i .i64, .i .i64] rows) (hlen : len * 40 ≤ 140737488351232) (cs : List Value) (hf : Fits [.i .i64, .i .u8, .i .u8, .i .i64, .i .i64] cs) :
    Calls Try.prog 11 #[.slice a len cap, .agg cs.toArray] w fun e w' => e = .returned (.bool true) ∧ Below w.heap.size w w' := by
  obtain ⟨ec, _, rfl, _, hf⟩ := fits_i hf
  obtain ⟨ek, _, rfl, _, hf⟩ := fits_i hf
  obtain ⟨es, _, rfl, _, hf⟩ := fits_i hf
  obtain ⟨ep, _, rfl, _, hf⟩ := fits_i hf
  obtain ⟨eq, _, rfl, _, hf⟩ := fits_i hf
  obtain rfl := fits_nil hf
  refine Calls.mono (R := fun e w' => e = .returned (.bool true) ∧ Only (fun _ => False) w w') ?_ (fun e w' h => ⟨h.1, h.2.below⟩)
  obtain ⟨L, hLl, hL, hwf⟩ := OrdIn.of_slice hs
  subst hLl
  exact planKinds_yes w a cap L hL hwf (by omega) ec ek es ep eq
end Go.Proofs.Ytilngakgofjmpaa
