/- The book: what the law's facing says of Facing's value. Conditions: a book as its New lays it; the list is read. -/
import Derived.Test.YtilngakgofjmpaaBkO
import Derived.Test.YtilngakgofjmpaaBk8
namespace Go.Proofs.Ytilngakgofjmpaa
set_option linter.unusedVariables false
set_option linter.unusedSimpArgs false
open Go.RowKit Go.Shelf
open Od (OrdR Lay FreeN Blk4)
attribute [local go_sem] Oper.semAt_some

/-- Of what is no side nothing is told. -/
theorem bk_iter_no {w : World} {T : Nat → Prop} {Bs Bb Bl : Nat} (s : Int) (hs : sidedB s = false) (hBs : Cell w Bs 0 (.int .u8 s)) :
    SeqT Try.prog 140 #[.pointer (some ⟨Bs, 0, none⟩), .pointer (some ⟨Bb, 0, none⟩), .pointer (some ⟨Bl, 0, none⟩)] encO (KT T Bs Bb Bl) [] w := fun ly J Jx W T0 hsz hK hT hJ hJx hY h0 => by
  have hBs := (hBs.blk (hK Bs (.inr (.inl rfl)))).cell
  have zs := cell_lt hBs
  have HS := Lib.hid (k_sided s)
  rw [hs] at HS
  have HJ := Lib.hid hJ
  have H0 := Lib.hid h0
  clear hT hJ hJx hY hK hsz h0 hs
  simp only [List.push_toArray, List.append_toArray, List.nil_append, List.cons_append]
  go_enter Try.func140, Try.ntmps140
  go_wp2_with fail
  refine (HS.out _).mono ?_
  rintro e w1 ⟨rfl, rfl⟩
  go_wp2_with fail
  go_returns
  exact ⟨⟨_, rfl⟩, .inl ⟨T0, HJ.out _ _ _ _ (fun _ => False) H0.out ((Only.refl _ W).alloc _) (fun _ h => h.elim)⟩⟩

/-- Whom an order of a side would meet. -/
def facO (l : Bool → List OrdR) (s lim : Int) : List OrdR := if s = 1 then facL 1 lim (l true) else if s = 2 then facL (-1) lim (l false) else []
theorem facO_len (l : Bool → List OrdR) (s lim : Int) : (facO l s lim).length ≤ (l false).length + (l true).length := by
  have h : ∀ sg (m : List OrdR), (facL sg lim m).length ≤ m.length := fun sg m => by
    unfold facL
    split
    · exact Nat.le_refl _
    · exact List.length_filter_le _ _
  unfold facO
  split
  · have := h 1 (l true); omega
  · split
    · have := h (-1) (l false); omega
    · simp
theorem bk_fac_iter {w : World} {b most room : Nat} {T : Nat → Prop} {l : Bool → List OrdR} (h : Bk w b T most room l) (s lim : Int) {Bs Bb Bl : Nat} (hBs : Cell w Bs 0 (.int .u8 (facS s))) (hBb : Cell w Bb 0 (.pointer (some ⟨b, 0, none⟩))) (hBl : Cell w Bl 0 (.int .i64 (if sidedB s then lim else 0))) :
    SeqT Try.prog 140 #[.pointer (some ⟨Bs, 0, none⟩), .pointer (some ⟨Bb, 0, none⟩), .pointer (some ⟨Bl, 0, none⟩)] encO (KT T Bs Bb Bl) (facO l s lim) w := by
  by_cases h1 : s = 1
  · subst h1
    exact bk_iter h true lim hBs hBb hBl
  · by_cases h2 : s = 2
    · subst h2
      exact bk_iter h false lim hBs hBb hBl
    · have e1 : facS s = 0 := by unfold facS; rw [if_neg h1, if_neg h2]
      have e2 : facO l s lim = [] := by unfold facO; rw [if_neg h1, if_neg h2]
      rw [e1] at hBs
      rw [e2]
      exact bk_iter_no 0 rfl hBs

theorem pre_at {α : Type} {s : List α} {x : α} {l : List α} (h : s ++ [x] <+: l) : l[s.length]? = some x := by
  obtain ⟨t, rfl⟩ := h
  simp

/-- Told so far. -/
structure FcI (Wc : World) (B : Nat) (s : List OrdR) (T : Nat → Prop) (A : World) : Prop where
  t : T = (· = B)
  c : Cell A B 0 (.int .i64 (s.length : Nat))
  only : Only (· = B) Wc A
structure FcJ (Wc : World) (B : Nat) (s : List OrdR) (T : Nat → Prop) (A : World) : Prop where
  t : T = (· = B)
  s : s = []
  c : Cell A B 0 (.bool false)
  only : Only (· = B) Wc A
structure FcX (Wc : World) (B : Nat) (c : Code) (s : List OrdR) (T : Nat → Prop) (A : World) : Prop where
  k : c = .ret
  t : T = (· = B)
  c : Cell A B 0 (.bool true)
  only : Only (· = B) Wc A

set_option maxRecDepth 100000 in
set_option maxHeartbeats 8000000 in
theorem bk_facing {w : World} {b most room : Nat} {T : Nat → Prop} {l : Bool → List OrdR} (h : Bk w b T most room l) (s lim : Int) {va : Option Addr} {ca : Nat} (hv : OrdAt w va (facO l s lim)) :
    Calls Try.prog 92 #[.pointer (some ⟨b, 0, none⟩), .int .u8 s, .int .i64 lim, .slice va (facO l s lim).length ca] w fun e w' => e = .returned (.bool true) ∧ Only (fun _ => False) w w' := by
  have hle : (facO l s lim).length ≤ 256 := by
    have h1 := h.good.len
    have h2 := h.good.small.1
    have h3 := facO_len l s lim
    omega
  have HLT := Lib.hid h.lt
  have HSEQ := Lib.hid fun W (o : Only (fun _ => False) w W) (Bs Bb Bl : Nat) (hBs : Cell W Bs 0 (.int .u8 (facS s))) (hBb : Cell W Bb 0 (.pointer (some ⟨b, 0, none⟩))) (hBl : Cell W Bl 0 (.int .i64 (if sidedB s then lim else 0))) => bk_fac_iter (h.only o (fun _ _ => id)) s lim hBs hBb hBl
  obtain ⟨xs, hxs⟩ : ∃ xs, xs = facO l s lim := ⟨_, rfl⟩
  rw [← hxs] at HSEQ hv hle ⊢
  obtain ⟨n, hn⟩ : ∃ n, n = xs.length := ⟨_, rfl⟩
  rw [← hn] at hle ⊢
  have HN := Lib.hid hn
  have HV := Lib.hid hv
  clear h hv hxs hn
  refine callsIn_wide.1 (callsIn_of_wp_marks (n := 0) Try.func92 rfl trivial (wpIn_wide.2 ?_) rfl)
  simp only [Try.ntmps92, List.size_toArray, List.length_cons, List.length_nil, Nat.reduceAdd, Nat.reduceSub, Array.replicate_succ, Array.replicate_zero, List.push_toArray, List.append_toArray, List.nil_append, List.cons_append]
  go_wp2_with fail
  have o0 : Only (fun _ => False) w ((w.alloc (.cells #[.slice va n ca] 52)).alloc (.cells #[.bool false] 4)) := ((Only.refl _ w).alloc _).alloc _
  have c7 := (Cell.new (w := w) (cs := #[.slice va n ca]) (t := 52) (o := 0) rfl).alloc (.cells #[.bool false] 4)
  have c8 := Cell.new (w := w.alloc (.cells #[.slice va n ca] 52)) (cs := #[.bool false]) (t := 4) (o := 0) rfl
  simp only [World.size_alloc] at c8
  refine (k_facing _ b s lim).mono ?_
  intro e Wc hp
  obtain ⟨Bs, Bb, Bl, rfl, oc, cs, cb, cl, gs, gb, gl'⟩ := hp
  have c7 := c7.only oc id
  have c8 := c8.only oc id
  have OWc := o0.trans oc
  have hsz := oc.size
  simp only [World.size_alloc] at hsz gs gb gl'
  obtain ⟨N0, hN0⟩ : ∃ N0, w.heap.size = N0 := ⟨_, rfl⟩
  simp only [hN0] at c7 c8 hsz gs gb gl' ⊢
  have hlt : ∀ i, T i → i < N0 := by rw [← hN0]; exact HLT.out
  have HN0 := Lib.hid hN0
  have HC := Lib.hid (⟨OWc, c7, c8, cs, cb, cl⟩ : Only (fun _ => False) w Wc ∧ _ ∧ _ ∧ _ ∧ _ ∧ _)
  clear o0 oc OWc c7 c8 cs cb cl hN0
  have hnil : ∀ W, (binOp .eql 97 (.func (.func 140) #[] #[.pointer (some ⟨Bs, 0, none⟩), .pointer (some ⟨Bb, 0, none⟩), .pointer (some ⟨Bl, 0, none⟩)]) .nilFunc).run Try.prog W = .ok (.bool false) W := by intro W; kernel_rfl
  go_wp2_with fail
  clear hnil
  refine (wpIn_wide (n := 0)).1 ?_
  obtain ⟨OWc, c7, c8, cs, cb, cl⟩ := HC.out
  have o1 : Only (fun _ => False) Wc (Wc.alloc (.cells #[.int .i64 0] 3)) := (Only.refl _ Wc).alloc _
  have c10 := Cell.new (w := Wc) (cs := #[.int .i64 0]) (t := 3) (o := 0) rfl
  obtain ⟨W1, hW1⟩ : ∃ W1, W1 = Wc.alloc (.cells #[.int .i64 0] 3) := ⟨_, rfl⟩
  rw [← hW1] at o1 c10 ⊢
  clear hW1
  obtain ⟨B10, hB10⟩ : ∃ B, B = Wc.heap.size := ⟨_, rfl⟩
  rw [← hB10] at c10 hsz ⊢
  have c7 := c7.only o1 id
  have c8 := c8.only o1 id
  have cs := cs.only o1 id
  have cb := cb.only o1 id
  have cl := cl.only o1 id
  have OW1 := OWc.trans o1
  have z10 := c10.lt
  have HSEQ1 := Lib.hid (HSEQ.out W1 OW1 Bs Bb Bl cs cb cl)
  have HK3 := Lib.hid (⟨cs.lt, cb.lt, cl.lt, HC.out.2.2.2.1.lt, HC.out.2.2.2.2.1.lt, HC.out.2.2.2.2.2.lt⟩ : _ ∧ _ ∧ _ ∧ _ ∧ _ ∧ _)
  rw [← hB10] at HK3
  have HC1 := Lib.hid (⟨OW1, c7, c8⟩ : _ ∧ _ ∧ _)
  have HB10 := Lib.hid hB10
  clear hB10 HC OWc OW1 c7 c8 cs cb cl o1
  refine rangeT (gf := 140) (lb := #[.pointer (some ⟨Bs, 0, none⟩), .pointer (some ⟨Bb, 0, none⟩), .pointer (some ⟨Bl, 0, none⟩)]) rfl (enters_of Try.func140 (by kernel_rfl) rfl)
    HSEQ1.out (fun _ => rfl) (Nat.le_refl _) (KeepB.refl _ _) ?hK
    (FcI W1 B10) (fun _ _ _ _ => False) (· = B10) ?hT ?hI (fun _ _ _ _ _ _ h _ _ => h.elim) ⟨rfl, c10, Only.refl _ _⟩ ?round ?done ?stop
  case hK =>
    rintro i (hi | rfl | rfl | rfl)
    · have := hlt i hi; omega
    · exact HK3.out.1
    · exact HK3.out.2.1
    · exact HK3.out.2.2.1
  case hT =>
    rintro s' T' A ⟨rfl, h4, ho⟩ i rfl
    refine ⟨?_, h4.lt⟩
    have hk3 := HK3.out
    rintro (hk | hk | hk | hk)
    · have := hlt _ hk; omega
    all_goals omega
  case hI =>
    rintro s' T' A B S ⟨rfl, h4, ho⟩ hAB hS
    exact ⟨rfl, h4.only hAB (fun h => (hS _ h).1 rfl), ho.trans' hAB (fun i h1 h2 => by have := (hS i h2).2; omega)⟩
  case round =>
    intro l1 s' T' x A hl1 hszA hrec hTl hi hpre
    have hat := pre_at hpre
    obtain ⟨oi, oc, os, op, oq⟩ := x
    unfold encO ordV
    gi_wp2
    refine ⟨(Only.refl _ A).alloc _, fun A1 hi1 o1 hr1 => ?_⟩
    have hlA : l1 < A.heap.size := by obtain ⟨r, hr⟩ := hrec; exact (Array.getElem?_eq_some_iff.1 hr).1
    have h5 := (Five.new A (.int .i64 oi) (.int .i64 oc) (.int .u8 os) (.int .i64 op) (.int .i64 oq) 54).only o1 (show ¬ A.heap.size = l1 by omega)
    have d1 := h5.c0.cell; have d2 := h5.c1.cell; have d3 := h5.c2.cell; have d4 := h5.c3.cell; have d5 := h5.c4.cell
    have zd := cell_lt d1
    obtain ⟨rfl, k4, ho⟩ := hi1
    have q7 := (HC1.out.2.1.only ho (by omega)).cell
    have z7 := cell_lt q7
    have q4 := k4.cell
    have z4 := cell_lt q4
    have f4 := k4.free
    have hk : s'.length < n := by rw [HN.out]; exact (List.getElem?_eq_some_iff.1 hat).1
    obtain ⟨g, rfl, hg, b0, b1, b2, b3, b4⟩ := (HV.out.only (HC1.out.1.trans' ho (fun i h1 h2 => by have := HN0.out; omega)) (fun _ _ => id)) s'.length _ hat
    simp only at b0 b1 b2 b3 b4
    obtain ⟨k, hkk⟩ : ∃ k, k = s'.length := ⟨_, rfl⟩
    rw [← hkk] at q4 k4 hk b0 b1 b2 b3 b4
    have t1 : decide ((n : Int) ≤ (k : Int)) = false := by simpa using hk
    have t2 : decide (n ≤ k) = false := by simpa using hk
    have i1 : (0 : Int) ≤ (k : Int) ∧ (k : Int) < (n : Int) := by omega
    have w1 : IntKind.i64.wrap ((k : Int) + 1) = (k : Int) + 1 := by rw [IntKind.wrap_i64]; omega
    have K4 := k4.set (.int .i64 ((k : Int) + 1))
    have KO := (Only.refl (· = B10) A1).setCell (p := ⟨B10, 0, none⟩) (.inl rfl) (.int .i64 ((k : Int) + 1))
    have HF := Lib.hid (⟨K4, KO, ho⟩ : _ ∧ _ ∧ _)
    have HKK := Lib.hid hkk
    clear hi h5 o1 hr1 hrec hpre k4 ho K4 KO hkk hat
    gi_wp2
    refine wpIn_still_tail 11 (by kernel_rfl) (by kernel_rfl) (by kernel_rfl) ?_
    simp only [List.take_succ_cons, List.take_zero, List.drop_succ_cons, List.drop_zero]
    repeat still_step
    refine wpStill_nil ?_
    go_wp2_with fail
    refine ⟨rfl, ?_⟩
    gi_wp2
    obtain ⟨K4, KO, ho⟩ := HF.out
    have KO' := KO.drew
    refine ⟨_, ⟨KO', fun i hi => .inl hi⟩, ⟨rfl, ?_, ho.trans KO'⟩⟩
    rw [List.length_append, ← HKK.out]
    exact K4.drew
  case stop => exact fun _ _ _ _ _ _ _ h => h.elim
  case done =>
  intro D T' B hD hi hTD hdd
  obtain ⟨rfl, k4, ho⟩ := hi
  rw [← HN.out] at k4
  obtain ⟨OW1, c7, c8⟩ := HC1.out
  have OB := OW1.trans' ho (fun i h1 h2 => by have := HN0.out; omega)
  have c7 := c7.only ho (by omega)
  have c8 := c8.only ho (by omega)
  have hne : ((n : Int) != (n : Int)) = false := by simp
  have q4 := k4.cell
  have q7 := c7.cell
  have q8 := c8.cell
  have z4 := cell_lt q4
  have z7 := cell_lt q7
  have z8 := cell_lt q8
  have HC2 := Lib.hid (⟨OB, c7, c8⟩ : _ ∧ _ ∧ _)
  have HD := Lib.hid (⟨hD, hdd, ho.size⟩ : _ ∧ _ ∧ _)
  have HKB := Lib.hid (show KeepB (KT T Bs Bb Bl) W1 B from fun i hi => ho.block i (by
      have hk3 := HK3.out
      rcases hi with hi | rfl | rfl | rfl
      · have := hlt i hi; omega
      all_goals omega) (by
      have hk3 := HK3.out
      rcases hi with hi | rfl | rfl | rfl
      · have := hlt i hi; omega
      all_goals omega))
  clear hD hdd hTD ho OB c7 c8 k4 OW1 HC1
  go_wp2_with fail
  refine (wpIn_wide (n := 0)).1 ?_
  have hzB : W1.heap.size ≤ B.heap.size := HD.out.2.2
  refine rangeT (gf := 140) (lb := #[.pointer (some ⟨Bs, 0, none⟩), .pointer (some ⟨Bb, 0, none⟩), .pointer (some ⟨Bl, 0, none⟩)]) rfl (enters_of Try.func140 (by kernel_rfl) rfl)
    HSEQ1.out (fun _ => rfl) hzB HKB.out ?hK
    (FcJ B (N0 + 1)) (FcX B (N0 + 1)) (· = N0 + 1) ?hT ?hI ?hIx ⟨rfl, rfl, HC2.out.2.2, Only.refl _ _⟩ ?round ?done ?stop
  case hK =>
    have hk3 := HK3.out
    rintro i (hi | rfl | rfl | rfl)
    · have := hlt i hi; omega
    all_goals omega
  case hT =>
    rintro s' T' A ⟨rfl, _, h4, ho⟩ i rfl
    refine ⟨?_, h4.lt⟩
    have hk3 := HK3.out
    rintro (hk | hk | hk | hk)
    · have := hlt _ hk; omega
    all_goals omega
  case hI =>
    rintro s' T' A B' S ⟨rfl, hs, h4, ho⟩ hAB hS
    exact ⟨rfl, hs, h4.only hAB (fun h => (hS _ h).1 rfl), ho.trans' hAB (fun i h1 h2 => by have := (hS i h2).2; omega)⟩
  case hIx =>
    rintro c s' T' A B' S ⟨hc, rfl, h4, ho⟩ hAB hS
    exact ⟨hc, rfl, h4.only hAB (fun h => (hS _ h).1 rfl), ho.trans' hAB (fun i h1 h2 => by have := (hS i h2).2; omega)⟩
  case round =>
    intro l1 s' T' x A hl1 hszA hrec hTl hi hpre
    have hat := pre_at hpre
    obtain ⟨oi, oc, os, op, oq⟩ := x
    unfold encO ordV
    gi_wp2
    refine ⟨(Only.refl _ A).alloc _, fun A1 hi1 o1 hr1 => ?_⟩
    have hlA : l1 < A.heap.size := by obtain ⟨r, hr⟩ := hrec; exact (Array.getElem?_eq_some_iff.1 hr).1
    have h5 := (Five.new A (.int .i64 oi) (.int .i64 oc) (.int .u8 os) (.int .i64 op) (.int .i64 oq) 54).only o1 (show ¬ A.heap.size = l1 by omega)
    have d1 := h5.c0.cell; have d2 := h5.c1.cell; have d3 := h5.c2.cell; have d4 := h5.c3.cell; have d5 := h5.c4.cell
    have zd := cell_lt d1
    obtain ⟨rfl, rfl, k4, ho⟩ := hi1
    have q7 := (HC2.out.2.1.only ho (by omega)).cell
    have z7 := cell_lt q7
    have q4 := k4.cell
    have z4 := cell_lt q4
    have f4 := k4.free
    have hk : 0 < n := by rw [HN.out]; exact (List.getElem?_eq_some_iff.1 hat).1
    obtain ⟨g, rfl, hg, b0, b1, b2, b3, b4⟩ := (HV.out.only (HC2.out.1.trans' ho (fun i h1 h2 => by have := HN0.out; omega)) (fun _ _ => id)) 0 _ hat
    simp only [Nat.zero_mul, Nat.zero_add] at b0 b1 b2 b3 b4
    have t1 : decide ((0 : Int) < (n : Int)) = true := by simpa using hk
    have t2 : decide (0 < n) = true := by simpa using hk
    have i1 : (0 : Int) ≤ (0 : Int) ∧ (0 : Int) < (n : Int) := by omega
    have K4 := k4.set (.bool true)
    have KO := (Only.refl (· = N0 + 1) A1).setCell (p := ⟨N0 + 1, 0, none⟩) (.inl rfl) (.bool true)
    have HF := Lib.hid (⟨K4, KO, ho⟩ : _ ∧ _ ∧ _)
    clear hi h5 o1 hr1 hrec hpre k4 ho K4 KO hat
    gi_wp2
    refine wpIn_still_tail 10 (by kernel_rfl) (by kernel_rfl) (by kernel_rfl) ?_
    simp only [List.take_succ_cons, List.take_zero, List.drop_succ_cons, List.drop_zero]
    repeat still_step
    refine wpStill_nil ?_
    go_wp2_with fail
    refine ⟨rfl, ?_⟩
    gi_wp2
    obtain ⟨K4, KO, ho⟩ := HF.out
    have KO' := KO.drew
    exact ⟨_, ⟨KO', fun i hi => .inl hi⟩, ⟨rfl, rfl, K4.drew, ho.trans KO'⟩⟩
  case done =>
    intro D2 T2 B2 hD2 hi hTD2 hdd2
    obtain ⟨rfl, _, k8, ho2⟩ := hi
    have hset := k8.set (.bool true)
    have q8 := k8.cell
    have f8 := k8.free
    have z8 := cell_lt q8
    have OW := Lib.hid ((HC2.out.1.trans' ho2 (fun i h1 h2 => by have := HN0.out; omega)).trans' ((Only.refl (· = N0 + 1) B2).setCell (p := ⟨N0 + 1, 0, none⟩) (.inl rfl) (.bool true)) (fun i h1 h2 => by have := HN0.out; omega))
    have oS := Lib.hid ((Only.refl (· = N0 + 1) B2).setCell (p := ⟨N0 + 1, 0, none⟩) (.inl rfl) (.bool true))
    have HSET := Lib.hid hset
    have HDD := Lib.hid hdd2
    have HO2 := Lib.hid ho2
    clear k8 hset hdd2 hTD2 ho2
    go_wp2_with fail
    obtain ⟨hD, hdd, hsz1⟩ := HD.out
    have hll := (Array.getElem?_eq_some_iff.1 hdd).1
    have hl2 := (Array.getElem?_eq_some_iff.1 HDD.out).1
    refine leaves_marks [D2, D] _ (by simp; omega) (fun E hE => ?_) (fun w' ho' => ?_)
    · simp only [List.mem_cons, List.mem_nil_iff, or_false] at hE
      rcases hE with rfl | rfl
      · exact (oS.out.block _ hl2 (by omega)).trans HDD.out
      · exact (oS.out.block _ (by have := HO2.out.size; omega) (by omega)).trans ((HO2.out.block _ hll (by omega)).trans hdd)
    · have g8 := (HSET.out.only ho' (fun hD => by simp only [List.mem_cons, List.mem_nil_iff, or_false] at hD; omega)).cell
      refine ⟨.bool true, by simp [results, Try.results92, go_sem, g8], rfl, ?_⟩
      refine OW.out.trans' ho' (fun i h1 h2 => ?_)
      simp only [List.mem_cons, List.mem_nil_iff, or_false] at h2
      have := HN0.out
      rcases h2 with rfl | rfl <;> omega
  case stop =>
    intro D2 c s' T2 B2 hD2 hs hi hTD2 hdd2
    obtain ⟨rfl, rfl, k8, ho2⟩ := hi
    have q8 := k8.cell
    have z8 := cell_lt q8
    have OW := Lib.hid (HC2.out.1.trans' ho2 (fun i h1 h2 => by have := HN0.out; omega))
    have HSET := Lib.hid k8
    have HDD := Lib.hid hdd2
    have HO2 := Lib.hid ho2
    clear k8 hdd2 hTD2 ho2
    refine wpIn_wide.2 ?_
    go_wp2_with fail
    obtain ⟨hD, hdd, hsz1⟩ := HD.out
    have hll := (Array.getElem?_eq_some_iff.1 hdd).1
    have hl2 := (Array.getElem?_eq_some_iff.1 HDD.out).1
    refine leaves_marks [D2, D] _ (by simp; omega) (fun E hE => ?_) (fun w' ho' => ?_)
    · simp only [List.mem_cons, List.mem_nil_iff, or_false] at hE
      rcases hE with rfl | rfl
      · exact HDD.out
      · exact (HO2.out.block _ hll (by omega)).trans hdd
    · have g8 := (HSET.out.only ho' (fun hD => by simp only [List.mem_cons, List.mem_nil_iff, or_false] at hD; omega)).cell
      refine ⟨.bool true, by simp [results, Try.results92, go_sem, g8], rfl, ?_⟩
      refine OW.out.trans' ho' (fun i h1 h2 => ?_)
      simp only [List.mem_cons, List.mem_nil_iff, or_false] at h2
      have := HN0.out
      rcases h2 with rfl | rfl <;> omega
end Go.Proofs.Ytilngakgofjmpaa
