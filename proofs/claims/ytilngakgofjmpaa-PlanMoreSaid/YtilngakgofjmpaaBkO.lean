/- The book: Open. Conditions: a book as its New lays it. -/
import Derived.Test.YtilngakgofjmpaaBkF
namespace Go.Proofs.Ytilngakgofjmpaa
set_option linter.unusedVariables false
set_option linter.unusedSimpArgs false
open Go.RowKit Go.Shelf
open Od (OrdR Lay FreeN Blk4)
attribute [local go_sem] Oper.semAt_some

/-- A client's orders, how many, how many lots. -/
def ofC (c : Int) (l : List OrdR) : List OrdR := l.filter fun o => decide (o.c = c)
def cntC (c : Int) (l : List OrdR) : Int := ((ofC c l).length : Nat)
def lotC (c : Int) (l : List OrdR) : Int := sumQ (ofC c l)
theorem cntC_nil (c : Int) : cntC c [] = 0 := rfl
theorem lotC_nil (c : Int) : lotC c [] = 0 := rfl
theorem ofC_snoc (c : Int) (l : List OrdR) (o : OrdR) : ofC c (l ++ [o]) = if o.c = c then ofC c l ++ [o] else ofC c l := by
  unfold ofC
  rw [List.filter_append]
  by_cases h : o.c = c
  · rw [if_pos h]; simp [h]
  · rw [if_neg h]; simp [h]
theorem cntC_snoc (c : Int) (l : List OrdR) (o : OrdR) : cntC c (l ++ [o]) = if o.c = c then cntC c l + 1 else cntC c l := by
  unfold cntC
  rw [ofC_snoc]
  split
  · simp
  · rfl
theorem lotC_snoc (c : Int) (l : List OrdR) (o : OrdR) : lotC c (l ++ [o]) = if o.c = c then lotC c l + o.q else lotC c l := by
  unfold lotC
  rw [ofC_snoc]
  split
  · rw [sumQ_append, sumQ_cons, sumQ_nil, Int.add_zero]
  · rfl
theorem ofC_bd {c : Int} {l : List OrdR} (h : ∀ o ∈ l, 1 ≤ o.q ∧ o.q ≤ 1000000000) : 0 ≤ cntC c l ∧ cntC c l ≤ l.length ∧ 0 ≤ lotC c l ∧ lotC c l ≤ l.length * 1000000000 := by
  have h1 : (ofC c l).length ≤ l.length := List.length_filter_le _ _
  have h2 := sumQ_bd (l := ofC c l) (fun o ho => h o (List.mem_filter.1 ho).1)
  unfold cntC lotC
  omega

/-- What is counted so far. -/
structure OpI (Wc : World) (B4 B5 : Nat) (c n0 q0 : Int) (s : List OrdR) (T : Nat → Prop) (A : World) : Prop where
  t : T = fun i => i = B4 ∨ i = B5
  c4 : Cell A B4 0 (.int .i64 (n0 + cntC c s))
  c5 : Cell A B5 0 (.int .i64 (q0 + lotC c s))
  only : Only (fun i => i = B4 ∨ i = B5) Wc A
/-- What Open hands back. -/
def openV (l : Bool → List OrdR) (c : Int) : Value := .tuple #[.int .i64 (cntC c (l false) + cntC c (l true)), .int .i64 (lotC c (l false) + lotC c (l true))]

set_option maxRecDepth 100000 in
set_option maxHeartbeats 8000000 in
theorem bk_open {w : World} {b most room : Nat} {T : Nat → Prop} {l : Bool → List OrdR} (h : Bk w b T most room l) (c : Int) :
    Calls Try.prog 45 #[.pointer (some ⟨b, 0, none⟩), .int .i64 c] w fun e w' => e = .returned (openV l c) ∧ Only (fun _ => False) w w' := by
  have hg := h.good
  have hle : ∀ q, (l q).length ≤ 256 := fun q => by
    have h1 := hg.len
    have h2 := hg.small.1
    cases q <;> omega
  have hbd : ∀ q s, s <+: l q → 0 ≤ cntC c s ∧ cntC c s ≤ 256 ∧ 0 ≤ lotC c s ∧ lotC c s ≤ 256000000000 := fun q s hs => by
    have h1 := ofC_bd (c := c) (l := s) (fun o ho => (hg.ok q o (hs.subset ho)).2.2.2.2.2.2)
    have h2 := hs.length_le
    have h3 := hle q
    omega
  have HLE := Lib.hid hle
  have HBD := Lib.hid hbd
  have HG := Lib.hid hg
  have HLT := Lib.hid h.lt
  have HSEQ := Lib.hid fun q W (o : Only (fun _ => False) w W) (Bs Bb Bl : Nat) (hBs : Cell W Bs 0 (.int .u8 (sdN q))) (hBb : Cell W Bb 0 (.pointer (some ⟨b, 0, none⟩))) (hBl : Cell W Bl 0 (.int .i64 0)) => bk_iter (h.only o (fun _ _ => id)) q 0 hBs hBb hBl
  clear h hg hle hbd
  refine callsIn_wide.1 (callsIn_of_wp_marks (n := 0) Try.func45 rfl trivial (wpIn_wide.2 ?_) rfl)
  simp only [Try.ntmps45, List.size_toArray, List.length_cons, List.length_nil, Nat.reduceAdd, Nat.reduceSub, Array.replicate_succ, Array.replicate_zero, List.push_toArray, List.append_toArray, List.nil_append, List.cons_append]
  go_wp2_with fail
  have o0 : Only (fun _ => False) w (((w.alloc (.cells #[.int .i64 c] 3)).alloc (.cells #[.int .i64 0] 3)).alloc (.cells #[.int .i64 0] 2)) := (((Only.refl _ w).alloc _).alloc _).alloc _
  have c3 := ((Cell.new (w := w) (cs := #[.int .i64 c]) (t := 3) (o := 0) rfl).alloc (.cells #[.int .i64 0] 3)).alloc (.cells #[.int .i64 0] 2)
  have c4 := (Cell.new (w := w.alloc (.cells #[.int .i64 c] 3)) (cs := #[.int .i64 0]) (t := 3) (o := 0) rfl).alloc (.cells #[.int .i64 0] 2)
  have c5 := Cell.new (w := (w.alloc (.cells #[.int .i64 c] 3)).alloc (.cells #[.int .i64 0] 3)) (cs := #[.int .i64 0]) (t := 2) (o := 0) rfl
  simp only [World.size_alloc] at c4 c5
  obtain ⟨W0, hW0⟩ : ∃ W0, (((w.alloc (.cells #[.int .i64 c] 3)).alloc (.cells #[.int .i64 0] 3)).alloc (.cells #[.int .i64 0] 2)) = W0 := ⟨_, rfl⟩
  rw [hW0] at o0 c3 c4 c5 ⊢
  clear hW0
  obtain ⟨N0, hN0⟩ : ∃ N0, w.heap.size = N0 := ⟨_, rfl⟩
  simp only [hN0] at c3 c4 c5 ⊢
  have hlt : ∀ i, T i → i < N0 := by rw [← hN0]; exact HLT.out
  have HN0 := Lib.hid hN0
  have HC := Lib.hid (⟨o0, c3, c4, c5⟩ : Only (fun _ => False) w W0 ∧ Cell W0 N0 0 (.int .i64 c) ∧ Cell W0 (N0 + 1) 0 (.int .i64 0) ∧ Cell W0 (N0 + 1 + 1) 0 (.int .i64 0))
  have z05 := c5.lt
  clear o0 c3 c4 c5 hN0
  refine wp_loop_rounds 3 ?_
  rw [rounds_succ]
  go_wp2_with fail
  refine (k_orders _ b 1).mono ?_
  intro e Wc1 hp
  obtain ⟨Bs, Bb, Bl, rfl, oc, cs, cb, cl, gs, gb, gl'⟩ := hp
  obtain ⟨o0, c3, c4, c5⟩ := HC.out
  have O0 := o0.trans oc
  have c3 := c3.only oc id
  have c4 := c4.only oc id
  have c5 := c5.only oc id
  have hsz := oc.size
  obtain ⟨n1, hn1⟩ : ∃ n : Int, n = 0 := ⟨_, rfl⟩
  obtain ⟨q1, hq1⟩ : ∃ n : Int, n = 0 := ⟨_, rfl⟩
  rw [← hn1] at c4
  rw [← hq1] at c5
  have HNQ1 := Lib.hid (⟨hn1, hq1⟩ : _ ∧ _)
  clear hn1 hq1
  have z5 := c5.lt
  have HSEQ1 := Lib.hid (HSEQ.out false Wc1 O0 Bs Bb Bl cs cb cl)
  rw [show facL (sgn false) 0 (l false) = l false from rfl] at HSEQ1
  have HCC := Lib.hid c3
  have HOC := Lib.hid oc
  have HO0 := Lib.hid O0
  have HKK := Lib.hid (⟨cs.lt, cb.lt, cl.lt⟩ : _ ∧ _ ∧ _)
  clear cs cb cl oc o0 O0
  go_wp2_with fail
  refine (wpIn_wide (n := 0)).1 ?_
  refine rangeT (gf := 140) (lb := #[.pointer (some ⟨Bs, 0, none⟩), .pointer (some ⟨Bb, 0, none⟩), .pointer (some ⟨Bl, 0, none⟩)]) rfl (enters_of Try.func140 (by kernel_rfl) rfl)
    HSEQ1.out (fun _ => rfl) (Nat.le_refl _) (KeepB.refl _ _) ?hK
    (OpI Wc1 (N0 + 1) (N0 + 1 + 1) c n1 q1) (fun _ _ _ _ => False) (fun i => i = N0 + 1 ∨ i = N0 + 1 + 1) ?hT ?hI (fun _ _ _ _ _ _ h _ _ => h.elim) ⟨rfl, by simpa [cntC_nil] using c4, by simpa [lotC_nil] using c5, Only.refl _ _⟩ ?round ?done ?stop
  case hK =>
    rintro i (hi | rfl | rfl | rfl)
    · have := hlt i hi; omega
    · exact HKK.out.1
    · exact HKK.out.2.1
    · exact HKK.out.2.2
  case hT =>
    rintro s T' A ⟨rfl, h4, h5, ho⟩ i (rfl | rfl)
    · refine ⟨?_, h4.lt⟩
      rintro (hk | hk | hk | hk)
      · have := hlt _ hk; omega
      all_goals omega
    · refine ⟨?_, h5.lt⟩
      rintro (hk | hk | hk | hk)
      · have := hlt _ hk; omega
      all_goals omega
  case hI =>
    rintro s T' A B S ⟨rfl, h4, h5, ho⟩ hAB hS
    exact ⟨rfl, h4.only hAB (fun h => (hS _ h).1 (.inl rfl)), h5.only hAB (fun h => (hS _ h).1 (.inr rfl)), ho.trans' hAB (fun i h1 h2 => by have := (hS i h2).2; omega)⟩
  case round =>
    intro l1 s T' x A hl1 hszA hrec hTl hi hpre
    obtain ⟨oi, oc, os, op, oq⟩ := x
    unfold encO ordV
    gi_wp2
    refine ⟨(Only.refl _ A).alloc _, fun A1 hi1 o1 hr1 => ?_⟩
    have hlA : l1 < A.heap.size := by obtain ⟨r, hr⟩ := hrec; exact (Array.getElem?_eq_some_iff.1 hr).1
    have h5 := (Five.new A (.int .i64 oi) (.int .i64 oc) (.int .u8 os) (.int .i64 op) (.int .i64 oq) 54).only o1 (show ¬ A.heap.size = l1 by omega)
    have d2 := h5.c1.cell
    have d5 := h5.c4.cell
    have zd := cell_lt d2
    obtain ⟨rfl, k4, k5, ho⟩ := hi1
    have q3 := (HCC.out.only ho (by omega)).cell
    have z3 := cell_lt q3
    have q4 := k4.cell
    have q5 := k5.cell
    have z4 := cell_lt q4
    have z6 := cell_lt q5
    have f4 := k4.free
    have f5 := k5.free
    have hb1 := HBD.out false s ((List.prefix_append _ _).trans hpre)
    have hb2 := (HG.out.ok false _ (hpre.subset (List.mem_append.2 (.inr (List.mem_singleton.2 rfl))))).2.2.2.2.2.2
    have hb2 : 1 ≤ oq ∧ oq ≤ 1000000000 := hb2
    have hn0 := trivial
    obtain ⟨hn1, hq1⟩ := HNQ1.out
    have OT : Only (fun i => i = N0 + 1 ∨ i = N0 + 1 + 1) A1 A1 := Only.refl _ _
    obtain ⟨ct, hct⟩ : ∃ ct, ct = cntC c s := ⟨_, rfl⟩
    obtain ⟨lt, hlo⟩ : ∃ lt, lt = lotC c s := ⟨_, rfl⟩
    rw [← hct] at k4 q4 hb1
    rw [← hlo] at k5 q5 hb1
    have HCT := Lib.hid hct
    have HLO := Lib.hid hlo
    have HHO := Lib.hid ho
    by_cases hc : oc = c
    · have t1 : (oc == c) = true := by simpa using hc
      have w1 : IntKind.i64.wrap (n1 + ct + 1) = n1 + ct + 1 := by rw [IntKind.wrap_i64]; omega
      have w2 : IntKind.i64.wrap (q1 + lt + oq) = q1 + lt + oq := by rw [IntKind.wrap_i64]; omega
      have K4 := (k4.set (.int .i64 (n1 + ct + 1))).far (blk_ne (b := N0 + 1 + 1) (o := 0) (b' := N0 + 1) (by omega)) (.int .i64 (q1 + lt + oq))
      have K5 := (k5.far (blk_ne (b := N0 + 1) (o := 0) (b' := N0 + 1 + 1) (by omega)) (.int .i64 (n1 + ct + 1))).set (.int .i64 (q1 + lt + oq))
      have KO := (OT.setCell (p := ⟨N0 + 1, 0, none⟩) (.inl (.inl rfl)) (.int .i64 (n1 + ct + 1))).setCell (p := ⟨N0 + 1 + 1, 0, none⟩) (.inl (.inr rfl)) (.int .i64 (q1 + lt + oq))
      have HF := Lib.hid (⟨K4, K5, KO⟩ : _ ∧ _ ∧ _)
      have HEQ := Lib.hid hc
      clear hn0 hn1 hq1 hi h5 o1 hr1 hrec hpre k4 k5 ho K4 K5 KO hc hct hlo OT
      gi_wp2
      obtain ⟨K4, K5, KO⟩ := HF.out
      refine ⟨_, ⟨KO, fun i hi => .inl hi⟩, ⟨rfl, ?_, ?_, HHO.out.trans KO⟩⟩
      · rw [cntC_snoc, if_pos HEQ.out, ← HCT.out, show n1 + (ct + 1) = n1 + ct + 1 by omega]; exact K4
      · rw [lotC_snoc, if_pos HEQ.out, ← HLO.out, show q1 + (lt + oq) = q1 + lt + oq by omega]; exact K5
    · have t1 : (oc == c) = false := by simpa using hc
      have HF := Lib.hid (⟨k4, k5⟩ : _ ∧ _)
      have HEQ := Lib.hid hc
      clear hn0 hn1 hq1 hi h5 o1 hr1 hrec hpre k4 k5 ho hc hct hlo OT
      gi_wp2
      obtain ⟨K4, K5⟩ := HF.out
      refine ⟨_, ⟨Only.refl _ _, fun i hi => .inl hi⟩, ⟨rfl, ?_, ?_, HHO.out⟩⟩
      · rw [cntC_snoc, if_neg HEQ.out, ← HCT.out]; exact K4
      · rw [lotC_snoc, if_neg HEQ.out, ← HLO.out]; exact K5
  case stop => exact fun _ _ _ _ _ _ _ h => h.elim
  case done =>
  intro D1 T' B1 hD hi hTD hdd
  obtain ⟨rfl, k4, k5, ho⟩ := hi
  have c3 := HCC.out.only ho (by omega)
  have OB := HO0.out.trans' ho (fun i h1 h2 => by have := HN0.out; rcases h2 with rfl | rfl <;> omega)
  rw [HNQ1.out.1] at k4
  rw [HNQ1.out.2] at k5
  rw [Int.zero_add] at k4 k5
  have z01 := k5.lt
  have HC1 := Lib.hid (⟨OB, c3, k4, k5⟩ : Only (fun _ => False) w B1 ∧ Cell B1 N0 0 (.int .i64 c) ∧ Cell B1 (N0 + 1) 0 (.int .i64 (cntC c (l false))) ∧ Cell B1 (N0 + 1 + 1) 0 (.int .i64 (lotC c (l false))))
  have HD1 := Lib.hid (⟨hD, hdd, hsz⟩ : _ ∧ _ ∧ _)
  have HST1 := Lib.hid ((Only.of_none HOC.out).trans ho)
  clear HOC HSEQ1 HCC HO0 HKK c3 c4 c5 hsz z5 gs gb gl' hD hTD hdd k4 k5 ho OB
  go_wp2_with fail
  rw [rounds_succ]
  go_wp2_with fail
  refine (k_orders _ b 2).mono ?_
  intro e Wc2 hp
  obtain ⟨Bs, Bb, Bl, rfl, oc, cs, cb, cl, gs, gb, gl'⟩ := hp
  obtain ⟨o0, c3, c4, c5⟩ := HC1.out
  have O0 := o0.trans oc
  have c3 := c3.only oc id
  have c4 := c4.only oc id
  have c5 := c5.only oc id
  have hsz := oc.size
  obtain ⟨n2, hn2⟩ : ∃ n : Int, n = (cntC c (l false)) := ⟨_, rfl⟩
  obtain ⟨q2, hq2⟩ : ∃ n : Int, n = (lotC c (l false)) := ⟨_, rfl⟩
  rw [← hn2] at c4
  rw [← hq2] at c5
  have HNQ2 := Lib.hid (⟨hn2, hq2⟩ : _ ∧ _)
  clear hn2 hq2
  have z5 := c5.lt
  have HSEQ1 := Lib.hid (HSEQ.out true Wc2 O0 Bs Bb Bl cs cb cl)
  rw [show facL (sgn true) 0 (l true) = l true from rfl] at HSEQ1
  have HCC := Lib.hid c3
  have HOC := Lib.hid oc
  have HO0 := Lib.hid O0
  have HKK := Lib.hid (⟨cs.lt, cb.lt, cl.lt⟩ : _ ∧ _ ∧ _)
  clear cs cb cl oc o0 O0
  go_wp2_with fail
  refine (wpIn_wide (n := 0)).1 ?_
  refine rangeT (gf := 140) (lb := #[.pointer (some ⟨Bs, 0, none⟩), .pointer (some ⟨Bb, 0, none⟩), .pointer (some ⟨Bl, 0, none⟩)]) rfl (enters_of Try.func140 (by kernel_rfl) rfl)
    HSEQ1.out (fun _ => rfl) (Nat.le_refl _) (KeepB.refl _ _) ?hK
    (OpI Wc2 (N0 + 1) (N0 + 1 + 1) c n2 q2) (fun _ _ _ _ => False) (fun i => i = N0 + 1 ∨ i = N0 + 1 + 1) ?hT ?hI (fun _ _ _ _ _ _ h _ _ => h.elim) ⟨rfl, by simpa [cntC_nil] using c4, by simpa [lotC_nil] using c5, Only.refl _ _⟩ ?round ?done ?stop
  case hK =>
    rintro i (hi | rfl | rfl | rfl)
    · have := hlt i hi; omega
    · exact HKK.out.1
    · exact HKK.out.2.1
    · exact HKK.out.2.2
  case hT =>
    rintro s T' A ⟨rfl, h4, h5, ho⟩ i (rfl | rfl)
    · refine ⟨?_, h4.lt⟩
      rintro (hk | hk | hk | hk)
      · have := hlt _ hk; omega
      all_goals omega
    · refine ⟨?_, h5.lt⟩
      rintro (hk | hk | hk | hk)
      · have := hlt _ hk; omega
      all_goals omega
  case hI =>
    rintro s T' A B S ⟨rfl, h4, h5, ho⟩ hAB hS
    exact ⟨rfl, h4.only hAB (fun h => (hS _ h).1 (.inl rfl)), h5.only hAB (fun h => (hS _ h).1 (.inr rfl)), ho.trans' hAB (fun i h1 h2 => by have := (hS i h2).2; omega)⟩
  case round =>
    intro l1 s T' x A hl1 hszA hrec hTl hi hpre
    obtain ⟨oi, oc, os, op, oq⟩ := x
    unfold encO ordV
    gi_wp2
    refine ⟨(Only.refl _ A).alloc _, fun A1 hi1 o1 hr1 => ?_⟩
    have hlA : l1 < A.heap.size := by obtain ⟨r, hr⟩ := hrec; exact (Array.getElem?_eq_some_iff.1 hr).1
    have h5 := (Five.new A (.int .i64 oi) (.int .i64 oc) (.int .u8 os) (.int .i64 op) (.int .i64 oq) 54).only o1 (show ¬ A.heap.size = l1 by omega)
    have d2 := h5.c1.cell
    have d5 := h5.c4.cell
    have zd := cell_lt d2
    obtain ⟨rfl, k4, k5, ho⟩ := hi1
    have q3 := (HCC.out.only ho (by omega)).cell
    have z3 := cell_lt q3
    have q4 := k4.cell
    have q5 := k5.cell
    have z4 := cell_lt q4
    have z6 := cell_lt q5
    have f4 := k4.free
    have f5 := k5.free
    have hb1 := HBD.out true s ((List.prefix_append _ _).trans hpre)
    have hb2 := (HG.out.ok true _ (hpre.subset (List.mem_append.2 (.inr (List.mem_singleton.2 rfl))))).2.2.2.2.2.2
    have hb2 : 1 ≤ oq ∧ oq ≤ 1000000000 := hb2
    have hn0 := HBD.out false (l false) (List.prefix_refl _)
    obtain ⟨hn1, hq1⟩ := HNQ2.out
    have OT : Only (fun i => i = N0 + 1 ∨ i = N0 + 1 + 1) A1 A1 := Only.refl _ _
    obtain ⟨ct, hct⟩ : ∃ ct, ct = cntC c s := ⟨_, rfl⟩
    obtain ⟨lt, hlo⟩ : ∃ lt, lt = lotC c s := ⟨_, rfl⟩
    rw [← hct] at k4 q4 hb1
    rw [← hlo] at k5 q5 hb1
    have HCT := Lib.hid hct
    have HLO := Lib.hid hlo
    have HHO := Lib.hid ho
    by_cases hc : oc = c
    · have t1 : (oc == c) = true := by simpa using hc
      have w1 : IntKind.i64.wrap (n2 + ct + 1) = n2 + ct + 1 := by rw [IntKind.wrap_i64]; omega
      have w2 : IntKind.i64.wrap (q2 + lt + oq) = q2 + lt + oq := by rw [IntKind.wrap_i64]; omega
      have K4 := (k4.set (.int .i64 (n2 + ct + 1))).far (blk_ne (b := N0 + 1 + 1) (o := 0) (b' := N0 + 1) (by omega)) (.int .i64 (q2 + lt + oq))
      have K5 := (k5.far (blk_ne (b := N0 + 1) (o := 0) (b' := N0 + 1 + 1) (by omega)) (.int .i64 (n2 + ct + 1))).set (.int .i64 (q2 + lt + oq))
      have KO := (OT.setCell (p := ⟨N0 + 1, 0, none⟩) (.inl (.inl rfl)) (.int .i64 (n2 + ct + 1))).setCell (p := ⟨N0 + 1 + 1, 0, none⟩) (.inl (.inr rfl)) (.int .i64 (q2 + lt + oq))
      have HF := Lib.hid (⟨K4, K5, KO⟩ : _ ∧ _ ∧ _)
      have HEQ := Lib.hid hc
      clear hn0 hn1 hq1 hi h5 o1 hr1 hrec hpre k4 k5 ho K4 K5 KO hc hct hlo OT
      gi_wp2
      obtain ⟨K4, K5, KO⟩ := HF.out
      refine ⟨_, ⟨KO, fun i hi => .inl hi⟩, ⟨rfl, ?_, ?_, HHO.out.trans KO⟩⟩
      · rw [cntC_snoc, if_pos HEQ.out, ← HCT.out, show n2 + (ct + 1) = n2 + ct + 1 by omega]; exact K4
      · rw [lotC_snoc, if_pos HEQ.out, ← HLO.out, show q2 + (lt + oq) = q2 + lt + oq by omega]; exact K5
    · have t1 : (oc == c) = false := by simpa using hc
      have HF := Lib.hid (⟨k4, k5⟩ : _ ∧ _)
      have HEQ := Lib.hid hc
      clear hn0 hn1 hq1 hi h5 o1 hr1 hrec hpre k4 k5 ho hc hct hlo OT
      gi_wp2
      obtain ⟨K4, K5⟩ := HF.out
      refine ⟨_, ⟨Only.refl _ _, fun i hi => .inl hi⟩, ⟨rfl, ?_, ?_, HHO.out⟩⟩
      · rw [cntC_snoc, if_neg HEQ.out, ← HCT.out]; exact K4
      · rw [lotC_snoc, if_neg HEQ.out, ← HLO.out]; exact K5
  case stop => exact fun _ _ _ _ _ _ _ h => h.elim
  case done =>
  intro D2 T' B2 hD hi hTD hdd
  obtain ⟨rfl, k4, k5, ho⟩ := hi
  have c3 := HCC.out.only ho (by omega)
  have OB := HO0.out.trans' ho (fun i h1 h2 => by have := HN0.out; rcases h2 with rfl | rfl <;> omega)
  rw [HNQ2.out.1] at k4
  rw [HNQ2.out.2] at k5
  
  have z02 := k5.lt
  have HC2 := Lib.hid (⟨OB, c3, k4, k5⟩ : Only (fun _ => False) w B2 ∧ Cell B2 N0 0 (.int .i64 c) ∧ Cell B2 (N0 + 1) 0 (.int .i64 (cntC c (l false) + cntC c (l true))) ∧ Cell B2 (N0 + 1 + 1) 0 (.int .i64 (lotC c (l false) + lotC c (l true))))
  have HD2 := Lib.hid (⟨hD, hdd, hsz⟩ : _ ∧ _ ∧ _)
  have HST2 := Lib.hid ((Only.of_none HOC.out).trans ho)
  clear HOC HSEQ1 HCC HO0 HKK c3 c4 c5 hsz z5 gs gb gl' hD hTD hdd k4 k5 ho OB
  go_wp2_with fail
  rw [rounds_succ]
  obtain ⟨OB, c3, c4, c5⟩ := HC2.out
  obtain ⟨n, hn⟩ : ∃ n, n = cntC c (l false) + cntC c (l true) := ⟨_, rfl⟩
  obtain ⟨m, hm⟩ : ∃ m, m = lotC c (l false) + lotC c (l true) := ⟨_, rfl⟩
  rw [← hn] at c4
  rw [← hm] at c5
  have q4 := c4.cell
  have q5 := c5.cell
  have f4 := c4.free
  have f5 := c5.free
  have z1 := cell_lt q4
  have z2 := cell_lt q5
  have K4 := (c4.set (.int .i64 n)).far (blk_ne (b := N0 + 1 + 1) (o := 0) (b' := N0 + 1) (by omega)) (.int .i64 m)
  have K5 := (c5.far (blk_ne (b := N0 + 1) (o := 0) (b' := N0 + 1 + 1) (by omega)) (.int .i64 n)).set (.int .i64 m)
  have e1 : openV l c = .tuple #[.int .i64 n, .int .i64 m] := by rw [hn, hm]; rfl
  have HE1 := Lib.hid e1
  have HF := Lib.hid (⟨K4, K5, OB⟩ : _ ∧ _ ∧ _)
  clear hn hm e1 K4 K5 OB c3 c4 c5 HSEQ
  go_wp2_with fail
  go_region
  all_goals go_wp2_with fail
  all_goals (
    obtain ⟨K4, K5, OB⟩ := HF.out
    obtain ⟨hD1, hdd1, hs1⟩ := HD1.out
    obtain ⟨hD2, hdd2, hs2⟩ := HD2.out
    have hz := HST1.out.size
    have hl1 : D1 < B1.heap.size := (Array.getElem?_eq_some_iff.1 hdd1).1
    have hx1 : B2.heap[D1]? = some (.deferred (some [])) := (HST2.out.block D1 hl1 (by omega)).trans hdd1
    have hll : D1 < D2 := by omega
    have hl2 : D2 < B2.heap.size := (Array.getElem?_eq_some_iff.1 hdd2).1
    have oS : Only (fun i => i = N0 + 1 ∨ i = N0 + 1 + 1) B2 ((B2.setCell ⟨N0 + 1, 0, none⟩ (.int .i64 n)).setCell ⟨N0 + 1 + 1, 0, none⟩ (.int .i64 m)).drew := (((Only.refl _ B2).setCell (.inl (.inl rfl)) _).setCell (.inl (.inr rfl)) _).drew
    refine leaves_marks [D2, D1] _ (by simp; omega) (fun E hE => ?_) (fun w' ho' => ?_)
    · simp only [List.mem_cons, List.mem_nil_iff, or_false] at hE
      rcases hE with rfl | rfl
      · exact (oS.block _ hl2 (by omega)).trans hdd2
      · exact (oS.block _ (by omega) (by omega)).trans hx1
    · have g4 := (K4.drew.only ho' (fun hD => by simp only [List.mem_cons, List.mem_nil_iff, or_false] at hD; omega)).cell
      have g5 := (K5.drew.only ho' (fun hD => by simp only [List.mem_cons, List.mem_nil_iff, or_false] at hD; omega)).cell
      refine ⟨.tuple #[.int .i64 n, .int .i64 m], by simp [results, Try.results45, go_sem, g4, g5], by rw [HE1.out], ?_⟩
      refine (OB.trans' oS (fun i h1 h2 => ?_)).trans' ho' (fun i h1 h2 => ?_)
      · have := HN0.out; rcases h2 with rfl | rfl <;> omega
      · simp only [List.mem_cons, List.mem_nil_iff, or_false] at h2
        have := HN0.out
        rcases h2 with rfl | rfl <;> omega)
end Go.Proofs.Ytilngakgofjmpaa
