/- Plan: all orders of a book as a list (the law's orders). Conditions: a book as its New lays it. -/
import Derived.Test.YtilngakgofjmpaaBkF
import Derived.Test.YtilngakgofjmpaaBk8
namespace Go.Proofs.Ytilngakgofjmpaa
set_option linter.unusedVariables false
set_option linter.unusedSimpArgs false
open Go.RowKit Go.Shelf
open Od (OrdR Lay FreeN Blk4)
attribute [local go_sem] Oper.semAt_some

/-- A row's block is no list of defers. -/
theorem own_ne {w : World} {base : Nat} {e : TypeId} {size : Nat} {v : Value} {n : Nat} {xs : List Value} {D : Nat} {m : Option (List Deferred)} (h : w.ownsRow base e size v n xs) (hd : w.heap[D]? = some (.deferred m)) : v.ownBlock ≠ some D := fun hv => by
  rcases h.2 with ⟨h0, _⟩ | ⟨g, cap, cur, rfl, _, hg, _⟩
  · rw [h0] at hv; cases hv
  · injection hv with hv
    subst hv
    rw [hg] at hd
    cases hd

/-- What has been gathered lies there, behind those of the first side. -/
structure GathQ (w Wc : World) (B : Nat) (pre s : List OrdR) (T : Nat → Prop) (A : World) : Prop where
  val : ∃ v, T = TL B v ∧ Cell A B 0 v ∧ A.ownsRow (w.heap.size + 1) 54 5 v (pre ++ s).length (ordC (pre ++ s)) ∧ ∀ i, v.ownBlock = some i → Wc.heap.size ≤ i ∨ (∃ v0, v0.ownBlock = some i ∧ Cell Wc B 0 v0)
  only : Only (fun i => i = B ∨ ∃ v0, v0.ownBlock = some i ∧ Cell Wc B 0 v0) Wc A
  len : s.length ≤ 256

set_option maxRecDepth 100000 in
set_option maxHeartbeats 8000000 in
theorem k_allOrders {w : World} {b most room : Nat} {T : Nat → Prop} {l : Bool → List OrdR} (h : Bk w b T most room l) :
    Calls Try.prog 55 #[.pointer (some ⟨b, 0, none⟩)] w (ListPost w (l false ++ l true)) := by
  obtain ⟨i3, hi3, hz3, hs3, hb3⟩ := info_parts Try.infoOrder
  have hg := h.good
  have hle : ∀ q, (l q).length ≤ 256 := fun q => by
    have h1 := hg.len
    have h2 := hg.small.1
    cases q <;> omega
  have HLE := Lib.hid hle
  have HLT := Lib.hid h.lt
  have HSEQ := Lib.hid fun q W (o : Only (fun _ => False) w W) (Bs Bb Bl : Nat) (hBs : Cell W Bs 0 (.int .u8 (sdN q))) (hBb : Cell W Bb 0 (.pointer (some ⟨b, 0, none⟩))) (hBl : Cell W Bl 0 (.int .i64 0)) => bk_iter (h.only o (fun _ _ => id)) q 0 hBs hBb hBl
  have HI := Lib.hid (⟨hi3, hz3, hs3, hb3⟩ : _ ∧ _ ∧ _ ∧ _)
  clear h hg hle hi3 hz3 hs3 hb3
  refine callsIn_wide.1 (callsIn_of_wp_marks (n := 0) Try.func55 rfl trivial (wpIn_wide.2 ?_) rfl)
  simp only [Try.ntmps55, List.size_toArray, List.length_cons, List.length_nil, Nat.reduceAdd, Nat.reduceSub, Array.replicate_succ, Array.replicate_zero, List.push_toArray, List.append_toArray, List.nil_append, List.cons_append]
  go_upto_region 2 with fail
  obtain ⟨W0, hW0⟩ : ∃ W0, w.alloc (.cells #[.slice none 0 0] 52) = W0 := ⟨_, rfl⟩
  obtain ⟨N0, hN0⟩ : ∃ N0, w.heap.size = N0 := ⟨_, rfl⟩
  have o0 : Only (fun _ => False) w W0 := by rw [← hW0]; exact (Only.refl _ w).alloc _
  have c5 : Cell W0 N0 0 (.slice none 0 0) := by rw [← hW0, ← hN0]; exact Cell.new rfl
  have hlt : ∀ i, T i → i < N0 := by rw [← hN0]; exact HLT.out
  rw [hW0]
  simp only [hN0]
  clear hW0
  have HN0 := Lib.hid hN0
  clear hN0
  have H0 := Lib.hid (show ∃ v, Cell W0 N0 0 v ∧ W0.ownsRow (w.heap.size + 1) 54 5 v ([] : List OrdR).length (ordC []) ∧ Only (fun _ => False) w W0 from ⟨_, c5, World.ownsRow_nil _ _ _ _, o0⟩)
  have zz := c5.lt
  clear o0 c5
  have HPL := Lib.hid (show ([] : List OrdR).length ≤ 256 by simp)
  go_wp2_with fail
  refine (k_orders _ b 1).mono ?_
  intro e Wc1 hp
  obtain ⟨Bs1, Bb1, Bl1, rfl, oc, cs, cb, cl, gs, gb, gl'⟩ := hp
  obtain ⟨v0, c5, hv0, o0⟩ := H0.out
  have O0 := o0.trans oc
  have c5 := c5.only oc id
  have hv0 := ownsRow_apart hv0 oc (fun _ _ => id)
  have hsz1 := oc.size
  have HSEQ1 := Lib.hid (HSEQ.out false Wc1 O0 Bs1 Bb1 Bl1 cs cb cl)
  rw [show facL (sgn false) 0 (l false) = l false from rfl] at HSEQ1
  have HKK1 := Lib.hid (⟨cs.lt, cb.lt, cl.lt⟩ : _ ∧ _ ∧ _)
  have HOC1 := Lib.hid oc
  have HC1 := Lib.hid (⟨O0, c5, hv0⟩ : _ ∧ _ ∧ _)
  have hbv : ∀ i, v0.ownBlock = some i → N0 + 1 ≤ i ∧ i < W0.heap.size := fun i hi => by
    obtain ⟨v1, k1, k2, k3⟩ := H0.out
    have e : v1 = v0 := by
      have a1 := (k1.only oc id).cell
      rw [c5.cell] at a1
      injection a1 with a1
      exact a1.symm
    subst e
    have := k2.lt i hi
    rw [HN0.out] at this
    exact this
  have HBV1 := Lib.hid hbv
  clear cs cb cl oc o0 O0 c5 hv0 hbv
  go_wp2_with fail
  refine (wpIn_wide (n := 0)).1 ?_
  refine rangeT (gf := 140) (lb := #[.pointer (some ⟨Bs1, 0, none⟩), .pointer (some ⟨Bb1, 0, none⟩), .pointer (some ⟨Bl1, 0, none⟩)]) rfl (enters_of Try.func140 (by kernel_rfl) rfl)
    HSEQ1.out (fun _ => rfl) (Nat.le_refl _) (KeepB.refl _ _) ?hK
    (GathQ w Wc1 N0 []) (fun _ _ _ _ => False) (TL N0 v0) ?hT ?hI (fun _ _ _ _ _ _ h _ _ => h.elim) ⟨⟨_, rfl, HC1.out.2.1, by rw [List.append_nil]; exact HC1.out.2.2, fun i hi => .inr ⟨_, hi, HC1.out.2.1⟩⟩, Only.refl _ _, by simp⟩ ?round ?done ?stop
  case hK =>
    have hzc := HC1.out.2.1.lt
    rintro i (hi | rfl | rfl | rfl)
    · have := hlt i hi; omega
    · exact HKK1.out.1
    · exact HKK1.out.2.1
    · exact HKK1.out.2.2
  case hT =>
    intro s T A hi i ht
    obtain ⟨v, rfl, hc, ho, hb⟩ := hi.val
    have hk3 := HKK1.out
    have hzc : N0 < W0.heap.size := by
      obtain ⟨_, k1, _⟩ := H0.out
      exact k1.lt
    rcases ht with rfl | ht
    · refine ⟨?_, hc.lt⟩
      rintro (hk | hk | hk | hk)
      · have := hlt _ hk; omega
      all_goals omega
    · have h1 := ho.lt _ ht
      rw [HN0.out] at h1
      refine ⟨?_, h1.2⟩
      rintro (hk | hk | hk | hk)
      · have := hlt _ hk; omega
      all_goals (
        rcases hb i ht with h | ⟨v1, hv1, hc1⟩
        · omega
        · have e : v1 = v0 := by
            have a1 := hc1.cell
            rw [HC1.out.2.1.cell] at a1
            injection a1 with a1
            exact a1.symm
          subst e
          have := HBV1.out i hv1
          omega)
  case hI =>
    intro s T A B S hi ho hS
    obtain ⟨v, rfl, hc, hw, hb⟩ := hi.val
    exact ⟨⟨v, rfl, hc.only ho (fun h => (hS _ h).1 (.inl rfl)), ownsRow_apart hw ho (fun i hv h => (hS i h).1 (.inr hv)), hb⟩, hi.only.trans' ho (fun i h1 h2 => by have := (hS i h2).2; omega), hi.len⟩
  case round =>
    intro l1 s T x A hl1 hszA hrec hTl hi hpre
    obtain ⟨oi, oc, os, op, oq⟩ := x
    unfold encO ordV
    gi_wp2
    refine ⟨(Only.refl _ A).alloc _, fun A1 hi1 o1 hr1 => ?_⟩
    have hlA : l1 < A.heap.size := by obtain ⟨r, hr⟩ := hrec; exact (Array.getElem?_eq_some_iff.1 hr).1
    have h5 := (Five.new A (.int .i64 oi) (.int .i64 oc) (.int .u8 os) (.int .i64 op) (.int .i64 oq) 54).only o1 (show ¬ A.heap.size = l1 by omega)
    have d1 := h5.c0.cell; have d2 := h5.c1.cell; have d3 := h5.c2.cell; have d4 := h5.c3.cell; have d5 := h5.c4.cell
    have zd := cell_lt d1
    obtain ⟨v, rfl, hc, hw, hb⟩ := hi1.val
    obtain ⟨va, vc, hvv, hvcap⟩ := own_slice hw
    have hlen : s.length + 1 ≤ 256 := by
      have h1 := hpre.length_le
      rw [List.length_append] at h1
      exact Nat.le_trans h1 (HLE.out false)
    have hplen : ([] ++ s).length ≤ 512 := by
      rw [List.length_append]
      have := HPL.out
      omega
    obtain ⟨hi3, hz3, hs3, hb3⟩ := HI.out
    have hs1 : Wc1.heap.size ≤ A1.heap.size := Nat.le_trans hszA (by have := o1.size; rw [World.size_alloc] at this; omega)
    have hbase : w.heap.size + 1 ≤ A1.heap.size := by rw [HN0.out]; have := HC1.out.2.1.lt; omega
    obtain ⟨v', W2, hr2, hw2, hg2, hloc⟩ := append_own (P := Try.prog) (ty := 52) Try.underlying52 hi3 hz3 hs3 hb3 rfl (by decide) (ownsRow_apart hw ((Only.refl (fun _ => False) A1).alloc (.cells #[.int .i64 oi, .int .i64 oc, .int .u8 os, .int .i64 op, .int .i64 oq] 54)) (fun _ _ => id)) ⟨A1.heap.size, 0, none⟩ 1 1 [.int .i64 oi, .int .i64 oc, .int .u8 os, .int .i64 op, .int .i64 oq] rfl (cell_five_new A1 _ _ _ _ _ _) (by simp [Value.oneCell']) (by unfold maxLen; omega) (by omega) (by rw [World.size_alloc]; omega)
    obtain ⟨va', vc', hvv', hvcap'⟩ := own_slice hw2
    have oW2 : Only (TL N0 v) A1 W2 := ((Only.refl _ A1).alloc _).trans' (Only.of_grown hg2 (fun r e => e) : Only (fun i => v.ownBlock = some i) _ _) (fun i _ h => .inr h)
    have hne : ¬ v.ownBlock = some N0 := fun e => by have := (hw.lt _ e).1; rw [HN0.out] at this; omega
    have hc2 := (hc.alloc (.cells #[.int .i64 oi, .int .i64 oc, .int .u8 os, .int .i64 op, .int .i64 oq] 54)).only (Only.of_grown hg2 (fun r e => e) : Only (fun i => v.ownBlock = some i) _ _) hne
    have hcc := hc.cell
    have hcf := hc2.free
    have hcc2 := hc2.cell
    have hset := (hc2.set v').cell
    have z1 := cell_lt hcc
    have z2 := cell_lt hcc2
    rw [hvv] at hr2 hcc hcc2
    rw [hvv'] at hr2 hset
    obtain ⟨pl, hpl⟩ : ∃ pl, pl = ([] ++ s).length := ⟨_, rfl⟩
    rw [← hpl] at hr2 hcc hcc2 hset hplen
    have HI1 := Lib.hid hi1
    have HW2 := Lib.hid hw2
    have HOW2 := Lib.hid oW2
    have HC2 := Lib.hid hc2
    have HLOC := Lib.hid hloc
    have HVV' := Lib.hid hvv'
    have HB2 := Lib.hid hb
    have HPLL := Lib.hid hpl
    clear hi1 hi hw hw2 hg2 hc hc2 h5 hrec hr1 o1 oW2 hloc hvv hvv' hb hpl
    gi_wp2_with (gi_at_builtin; refine wpListIn_append_run rfl (.tmp 9) (.tmp 11) 52 rfl _ _ _ rfl rfl hr2 ?_)
    rw [HPLL.out, ← HVV'.out]
    have hi1 := HI1.out
    have oS := (Only.refl (· = N0) W2).setCell (p := ⟨N0, 0, none⟩) (.inl rfl) v'
    have OT : Only (TL N0 v) A1 (W2.setCell ⟨N0, 0, none⟩ v') := HOW2.out.setCell (.inl (.inl rfl)) v'
    have hw3 := ownsRow_apart HW2.out oS (fun i hv h => by have := (HW2.out.lt _ hv).1; rw [HN0.out] at this; omega)
    refine ⟨TL N0 v', ⟨OT, fun i hi => ?_⟩, ⟨⟨v', rfl, HC2.out.set v', ?_, fun i hi => ?_⟩, hi1.only.trans' OT (fun i h1 h2 => ?_), by rw [List.length_append]; exact hlen⟩⟩
    · rcases hi with rfl | hi
      · exact .inl (.inl rfl)
      · rcases HLOC.out with e | e
        · exact .inl (.inr (by rw [← e]; exact hi))
        · rw [e, World.size_alloc] at hi; injection hi with hi; exact .inr (by omega)
    · rw [← List.append_assoc, List.length_append, ordC_append]; exact hw3
    · rcases HLOC.out with e | e
      · exact HB2.out i (by rw [← e]; exact hi)
      · rw [e, World.size_alloc] at hi; injection hi with hi; exact .inl (by omega)
    · rcases h2 with h2 | h2
      · exact .inl h2
      · rcases HB2.out i h2 with h | h
        · omega
        · exact .inr h
  case stop => exact fun _ _ _ _ _ _ _ h => h.elim
  case done =>
  intro D1 T1 B1_ hD1 hi hTD1 hdd1
  obtain ⟨v, rfl, hc, hw, hb⟩ := hi.val
  have ho1 : Only (fun _ => False) w B1_ := HC1.out.1.trans' hi.only (fun i h1 h2 => by
    rcases h2 with rfl | ⟨v1, hv1, hc1⟩
    · rw [HN0.out] at h1; omega
    · have e : v1 = v0 := by
        have a1 := hc1.cell
        rw [HC1.out.2.1.cell] at a1
        injection a1 with a1
        exact a1.symm
      subst e
      have := HBV1.out i hv1
      rw [HN0.out] at h1; omega)
  have hs1 : D1 < B1_.heap.size := (Array.getElem?_eq_some_iff.1 hdd1).1
  have HM1 := Lib.hid (⟨hD1, hdd1, hi.only.size, hs1⟩ : _ ∧ _ ∧ _ ∧ _)
  have HPK1 := Lib.hid (show ∀ D : Nat, W0.heap[D]? = some (Obj.deferred (some [])) → B1_.heap[D]? = some (Obj.deferred (some [])) from fun D hD => by
    have hl := (Array.getElem?_eq_some_iff.1 hD).1
    have h1 := (HOC1.out.block D hl id).trans hD
    refine (hi.only.block D (Nat.lt_of_lt_of_le hl HOC1.out.size) (fun h => ?_)).trans h1
    rcases h with rfl | ⟨v1, hv1, hc1⟩
    · obtain ⟨u, k1, _⟩ := H0.out
      have := k1.cell
      unfold World.cell? at this
      rw [show W0.heap[(⟨D, 0, none⟩ : Addr).block]? = _ from hD] at this
      simp at this
    · have e : v1 = v0 := by
        have a1 := hc1.cell
        rw [HC1.out.2.1.cell] at a1
        injection a1 with a1
        exact a1.symm
      subst e
      exact own_ne HC1.out.2.2 h1 hv1)
  have H1 := Lib.hid (show ∃ v, Cell B1_ N0 0 v ∧ B1_.ownsRow (w.heap.size + 1) 54 5 v ([] ++ l false).length (ordC ([] ++ l false)) ∧ Only (fun _ => False) w B1_ from ⟨v, hc, hw, ho1⟩)
  clear hi hw hb ho1 hTD1 hD1 hdd1 hs1 hc HC1 HSEQ1 HBV1 H0
  have HPL := Lib.hid (HLE.out false)
  go_wp2_with fail
  refine (k_orders _ b 2).mono ?_
  intro e Wc2 hp
  obtain ⟨Bs2, Bb2, Bl2, rfl, oc, cs, cb, cl, gs, gb, gl'⟩ := hp
  obtain ⟨v0, c5, hv0, o0⟩ := H1.out
  have O0 := o0.trans oc
  have c5 := c5.only oc id
  have hv0 := ownsRow_apart hv0 oc (fun _ _ => id)
  have hsz2 := oc.size
  have HSEQ2 := Lib.hid (HSEQ.out true Wc2 O0 Bs2 Bb2 Bl2 cs cb cl)
  rw [show facL (sgn true) 0 (l true) = l true from rfl] at HSEQ2
  have HKK2 := Lib.hid (⟨cs.lt, cb.lt, cl.lt⟩ : _ ∧ _ ∧ _)
  have HOC2 := Lib.hid oc
  have HC2 := Lib.hid (⟨O0, c5, hv0⟩ : _ ∧ _ ∧ _)
  have hbv : ∀ i, v0.ownBlock = some i → N0 + 1 ≤ i ∧ i < B1_.heap.size := fun i hi => by
    obtain ⟨v1, k1, k2, k3⟩ := H1.out
    have e : v1 = v0 := by
      have a1 := (k1.only oc id).cell
      rw [c5.cell] at a1
      injection a1 with a1
      exact a1.symm
    subst e
    have := k2.lt i hi
    rw [HN0.out] at this
    exact this
  have HBV2 := Lib.hid hbv
  clear cs cb cl oc o0 O0 c5 hv0 hbv
  go_wp2_with fail
  refine (wpIn_wide (n := 0)).1 ?_
  refine rangeT (gf := 140) (lb := #[.pointer (some ⟨Bs2, 0, none⟩), .pointer (some ⟨Bb2, 0, none⟩), .pointer (some ⟨Bl2, 0, none⟩)]) rfl (enters_of Try.func140 (by kernel_rfl) rfl)
    HSEQ2.out (fun _ => rfl) (Nat.le_refl _) (KeepB.refl _ _) ?hK
    (GathQ w Wc2 N0 (l false)) (fun _ _ _ _ => False) (TL N0 v0) ?hT ?hI (fun _ _ _ _ _ _ h _ _ => h.elim) ⟨⟨_, rfl, HC2.out.2.1, by rw [List.append_nil]; exact HC2.out.2.2, fun i hi => .inr ⟨_, hi, HC2.out.2.1⟩⟩, Only.refl _ _, by simp⟩ ?round ?done ?stop
  case hK =>
    have hzc := HC2.out.2.1.lt
    rintro i (hi | rfl | rfl | rfl)
    · have := hlt i hi; omega
    · exact HKK2.out.1
    · exact HKK2.out.2.1
    · exact HKK2.out.2.2
  case hT =>
    intro s T A hi i ht
    obtain ⟨v, rfl, hc, ho, hb⟩ := hi.val
    have hk3 := HKK2.out
    have hzc : N0 < B1_.heap.size := by
      obtain ⟨_, k1, _⟩ := H1.out
      exact k1.lt
    rcases ht with rfl | ht
    · refine ⟨?_, hc.lt⟩
      rintro (hk | hk | hk | hk)
      · have := hlt _ hk; omega
      all_goals omega
    · have h1 := ho.lt _ ht
      rw [HN0.out] at h1
      refine ⟨?_, h1.2⟩
      rintro (hk | hk | hk | hk)
      · have := hlt _ hk; omega
      all_goals (
        rcases hb i ht with h | ⟨v1, hv1, hc1⟩
        · omega
        · have e : v1 = v0 := by
            have a1 := hc1.cell
            rw [HC2.out.2.1.cell] at a1
            injection a1 with a1
            exact a1.symm
          subst e
          have := HBV2.out i hv1
          omega)
  case hI =>
    intro s T A B S hi ho hS
    obtain ⟨v, rfl, hc, hw, hb⟩ := hi.val
    exact ⟨⟨v, rfl, hc.only ho (fun h => (hS _ h).1 (.inl rfl)), ownsRow_apart hw ho (fun i hv h => (hS i h).1 (.inr hv)), hb⟩, hi.only.trans' ho (fun i h1 h2 => by have := (hS i h2).2; omega), hi.len⟩
  case round =>
    intro l1 s T x A hl1 hszA hrec hTl hi hpre
    obtain ⟨oi, oc, os, op, oq⟩ := x
    unfold encO ordV
    gi_wp2
    refine ⟨(Only.refl _ A).alloc _, fun A1 hi1 o1 hr1 => ?_⟩
    have hlA : l1 < A.heap.size := by obtain ⟨r, hr⟩ := hrec; exact (Array.getElem?_eq_some_iff.1 hr).1
    have h5 := (Five.new A (.int .i64 oi) (.int .i64 oc) (.int .u8 os) (.int .i64 op) (.int .i64 oq) 54).only o1 (show ¬ A.heap.size = l1 by omega)
    have d1 := h5.c0.cell; have d2 := h5.c1.cell; have d3 := h5.c2.cell; have d4 := h5.c3.cell; have d5 := h5.c4.cell
    have zd := cell_lt d1
    obtain ⟨v, rfl, hc, hw, hb⟩ := hi1.val
    obtain ⟨va, vc, hvv, hvcap⟩ := own_slice hw
    have hlen : s.length + 1 ≤ 256 := by
      have h1 := hpre.length_le
      rw [List.length_append] at h1
      exact Nat.le_trans h1 (HLE.out true)
    have hplen : ((l false) ++ s).length ≤ 512 := by
      rw [List.length_append]
      have := HPL.out
      omega
    obtain ⟨hi3, hz3, hs3, hb3⟩ := HI.out
    have hs1 : Wc2.heap.size ≤ A1.heap.size := Nat.le_trans hszA (by have := o1.size; rw [World.size_alloc] at this; omega)
    have hbase : w.heap.size + 1 ≤ A1.heap.size := by rw [HN0.out]; have := HC2.out.2.1.lt; omega
    obtain ⟨v', W2, hr2, hw2, hg2, hloc⟩ := append_own (P := Try.prog) (ty := 52) Try.underlying52 hi3 hz3 hs3 hb3 rfl (by decide) (ownsRow_apart hw ((Only.refl (fun _ => False) A1).alloc (.cells #[.int .i64 oi, .int .i64 oc, .int .u8 os, .int .i64 op, .int .i64 oq] 54)) (fun _ _ => id)) ⟨A1.heap.size, 0, none⟩ 1 1 [.int .i64 oi, .int .i64 oc, .int .u8 os, .int .i64 op, .int .i64 oq] rfl (cell_five_new A1 _ _ _ _ _ _) (by simp [Value.oneCell']) (by unfold maxLen; omega) (by omega) (by rw [World.size_alloc]; omega)
    obtain ⟨va', vc', hvv', hvcap'⟩ := own_slice hw2
    have oW2 : Only (TL N0 v) A1 W2 := ((Only.refl _ A1).alloc _).trans' (Only.of_grown hg2 (fun r e => e) : Only (fun i => v.ownBlock = some i) _ _) (fun i _ h => .inr h)
    have hne : ¬ v.ownBlock = some N0 := fun e => by have := (hw.lt _ e).1; rw [HN0.out] at this; omega
    have hc2 := (hc.alloc (.cells #[.int .i64 oi, .int .i64 oc, .int .u8 os, .int .i64 op, .int .i64 oq] 54)).only (Only.of_grown hg2 (fun r e => e) : Only (fun i => v.ownBlock = some i) _ _) hne
    have hcc := hc.cell
    have hcf := hc2.free
    have hcc2 := hc2.cell
    have hset := (hc2.set v').cell
    have z1 := cell_lt hcc
    have z2 := cell_lt hcc2
    rw [hvv] at hr2 hcc hcc2
    rw [hvv'] at hr2 hset
    obtain ⟨pl, hpl⟩ : ∃ pl, pl = ((l false) ++ s).length := ⟨_, rfl⟩
    rw [← hpl] at hr2 hcc hcc2 hset hplen
    have HI1 := Lib.hid hi1
    have HW2 := Lib.hid hw2
    have HOW2 := Lib.hid oW2
    have HC2 := Lib.hid hc2
    have HLOC := Lib.hid hloc
    have HVV' := Lib.hid hvv'
    have HB2 := Lib.hid hb
    have HPLL := Lib.hid hpl
    clear hi1 hi hw hw2 hg2 hc hc2 h5 hrec hr1 o1 oW2 hloc hvv hvv' hb hpl
    gi_wp2_with (gi_at_builtin; refine wpListIn_append_run rfl (.tmp 16) (.tmp 18) 52 rfl _ _ _ rfl rfl hr2 ?_)
    rw [HPLL.out, ← HVV'.out]
    have hi1 := HI1.out
    have oS := (Only.refl (· = N0) W2).setCell (p := ⟨N0, 0, none⟩) (.inl rfl) v'
    have OT : Only (TL N0 v) A1 (W2.setCell ⟨N0, 0, none⟩ v') := HOW2.out.setCell (.inl (.inl rfl)) v'
    have hw3 := ownsRow_apart HW2.out oS (fun i hv h => by have := (HW2.out.lt _ hv).1; rw [HN0.out] at this; omega)
    refine ⟨TL N0 v', ⟨OT, fun i hi => ?_⟩, ⟨⟨v', rfl, HC2.out.set v', ?_, fun i hi => ?_⟩, hi1.only.trans' OT (fun i h1 h2 => ?_), by rw [List.length_append]; exact hlen⟩⟩
    · rcases hi with rfl | hi
      · exact .inl (.inl rfl)
      · rcases HLOC.out with e | e
        · exact .inl (.inr (by rw [← e]; exact hi))
        · rw [e, World.size_alloc] at hi; injection hi with hi; exact .inr (by omega)
    · rw [← List.append_assoc, List.length_append, ordC_append]; exact hw3
    · rcases HLOC.out with e | e
      · exact HB2.out i (by rw [← e]; exact hi)
      · rw [e, World.size_alloc] at hi; injection hi with hi; exact .inl (by omega)
    · rcases h2 with h2 | h2
      · exact .inl h2
      · rcases HB2.out i h2 with h | h
        · omega
        · exact .inr h
  case stop => exact fun _ _ _ _ _ _ _ h => h.elim
  case done =>
  intro D2 T1 B2_ hD2 hi hTD2 hdd2
  obtain ⟨v, rfl, hc, hw, hb⟩ := hi.val
  have ho2 : Only (fun _ => False) w B2_ := HC2.out.1.trans' hi.only (fun i h1 h2 => by
    rcases h2 with rfl | ⟨v1, hv1, hc1⟩
    · rw [HN0.out] at h1; omega
    · have e : v1 = v0 := by
        have a1 := hc1.cell
        rw [HC2.out.2.1.cell] at a1
        injection a1 with a1
        exact a1.symm
      subst e
      have := HBV2.out i hv1
      rw [HN0.out] at h1; omega)
  have hs2 : D2 < B2_.heap.size := (Array.getElem?_eq_some_iff.1 hdd2).1
  have HM2 := Lib.hid (⟨hD2, hdd2, hi.only.size, hs2⟩ : _ ∧ _ ∧ _ ∧ _)
  have HPK2 := Lib.hid (show ∀ D : Nat, B1_.heap[D]? = some (Obj.deferred (some [])) → B2_.heap[D]? = some (Obj.deferred (some [])) from fun D hD => by
    have hl := (Array.getElem?_eq_some_iff.1 hD).1
    have h1 := (HOC2.out.block D hl id).trans hD
    refine (hi.only.block D (Nat.lt_of_lt_of_le hl HOC2.out.size) (fun h => ?_)).trans h1
    rcases h with rfl | ⟨v1, hv1, hc1⟩
    · obtain ⟨u, k1, _⟩ := H1.out
      have := k1.cell
      unfold World.cell? at this
      rw [show B1_.heap[(⟨D, 0, none⟩ : Addr).block]? = _ from hD] at this
      simp at this
    · have e : v1 = v0 := by
        have a1 := hc1.cell
        rw [HC2.out.2.1.cell] at a1
        injection a1 with a1
        exact a1.symm
      subst e
      exact own_ne HC2.out.2.2 h1 hv1)
  have H2 := Lib.hid (show ∃ v, Cell B2_ N0 0 v ∧ B2_.ownsRow (w.heap.size + 1) 54 5 v ((l false) ++ l true).length (ordC ((l false) ++ l true)) ∧ Only (fun _ => False) w B2_ from ⟨v, hc, hw, ho2⟩)
  clear hi hw hb ho2 hTD2 hD2 hdd2 hs2 hc HC2 HSEQ2 HBV2 H1
  obtain ⟨v, hc, hw, ho⟩ := H2.out
  obtain ⟨va, vc, rfl, _⟩ := own_slice hw
  have q3 := hc.cell
  have z3 := cell_lt q3
  obtain ⟨n, hn⟩ : ∃ n, n = (l false ++ l true).length := ⟨_, rfl⟩
  rw [← hn] at q3 hw
  have HF := Lib.hid (⟨hw, ho, hn⟩ : _ ∧ _ ∧ _)
  clear hc hw ho hn
  go_wp2_with fail
  obtain ⟨hw, ho, hn⟩ := HF.out
  obtain ⟨hD1, hdd1, hz1, hs1⟩ := HM1.out
  obtain ⟨hD2, hdd2, hz2, hs2⟩ := HM2.out
  have hx1 := HPK2.out D1 hdd1
  have hz3 := HOC2.out.size
  have hN := HN0.out
  refine leaves_marks [D2, D1] _ (by simp; omega) (fun E hE => ?_) (fun w' ho' => ?_)
  · simp only [List.mem_cons, List.mem_nil_iff, or_false] at hE
    rcases hE with rfl | rfl
    · exact hdd2
    · exact hx1
  · have hw4 := ownsRow_apart hw ho' (fun i hv h => by
      simp only [List.mem_cons, List.mem_nil_iff, or_false] at h
      rcases h with rfl | rfl
      · exact own_ne hw hdd2 hv
      · exact own_ne hw hx1 hv)
    refine ⟨.slice va n vc, by simp [results, Try.f55, go_sem], _, rfl, ?_, ?_⟩
    · rw [← hn]; exact ownsRow_base hw4 (by omega)
    · refine ho.trans' ho' (fun i h1 h2 => ?_)
      simp only [List.mem_cons, List.mem_nil_iff, or_false] at h2
      omega

end Go.Proofs.Ytilngakgofjmpaa
