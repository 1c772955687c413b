/- The book's orders as a list (the law's Orders). Conditions: a book as its New lays it. -/
import Derived.Test.YtilngakgofjmpaaBk6
namespace Go.Proofs.Ytilngakgofjmpaa
set_option linter.unusedVariables false
set_option linter.unusedSimpArgs false
open Go.RowKit Go.Shelf
open Od (OrdR Lay FreeN Blk4)
attribute [local go_sem] Oper.semAt_some

/-- The cells of a list of orders. -/
def ordC (l : List OrdR) : List Value := l.flatMap fun o => [.int .i64 o.i, .int .i64 o.c, .int .u8 o.s, .int .i64 o.p, .int .i64 o.q]
theorem ordC_append (l m : List OrdR) : ordC (l ++ m) = ordC l ++ ordC m := by simp [ordC]
theorem ordC_length (l : List OrdR) : (ordC l).length = l.length * 5 := by
  induction l with
  | nil => rfl
  | cons x t ih => simp only [ordC, List.flatMap_cons, List.length_append, List.length_cons, List.length_nil] at ih ⊢; omega
theorem Try.infoOrder : (Try.prog.info? 54).map (fun i => (i.zero, i.size, i.bytes)) = some (some (.agg #[.int .i64 0, .int .i64 0, .int .u8 0, .int .i64 0, .int .i64 0]), 5, 40) := by kernel_rfl
theorem cell_five_new (w : World) (x0 x1 x2 x3 x4 : Value) (t : TypeId) : ∀ j u, [x0, x1, x2, x3, x4][j]? = some u → (w.alloc (.cells #[x0, x1, x2, x3, x4] t)).cell? ((⟨w.heap.size, 0, none⟩ : Addr).add j) = some u := by
  intro j u h
  rw [show (⟨w.heap.size, 0, none⟩ : Addr).add j = ⟨w.heap.size, j, none⟩ by unfold Addr.add; split <;> simp_all]
  exact (Cell.new (cs := #[x0, x1, x2, x3, x4]) (by simpa using h)).cell

/-- The caller's blocks while a list grows: its box, its row. -/
def TL (B : Nat) (v : Value) (i : Nat) : Prop := i = B ∨ v.ownBlock = some i
/-- What has been gathered lies there. -/
structure Gath (w Wc : World) (B4 B5 : Nat) (s : List OrdR) (T : Nat → Prop) (A : World) : Prop where
  val : ∃ v, T = TL B5 v ∧ Cell A B5 0 v ∧ A.ownsRow Wc.heap.size 54 5 v s.length (ordC s)
  res : Cell A B4 0 (.slice none 0 0)
  only : Only (fun _ => False) w A
  len : s.length ≤ 256

/-- What Orders hands back. -/
def ListPost (w : World) (l : List OrdR) (e : Ending) (w' : World) : Prop := ∃ v, e = .returned v ∧ w'.ownsRow w.heap.size 54 5 v l.length (ordC l) ∧ Only (fun _ => False) w w'

theorem ownsRow_base {w : World} {b b' : Nat} {e : TypeId} {size : Nat} {v : Value} {n : Nat} {xs : List Value} (h : w.ownsRow b e size v n xs) (hb : b' ≤ b) : w.ownsRow b' e size v n xs := by
  refine ⟨h.1, ?_⟩
  rcases h.2 with hn | ⟨g, cap, cur, e', h1, r⟩
  · exact .inl hn
  · exact .inr ⟨g, cap, cur, e', Nat.le_trans hb h1, r⟩
theorem ownsRow_apart {w w' : World} {S : Nat → Prop} {base : Nat} {e : TypeId} {size : Nat} {v : Value} {n : Nat} {xs : List Value} (h : w.ownsRow base e size v n xs) (k : Only S w w') (hS : ∀ i, v.ownBlock = some i → ¬ S i) : w'.ownsRow base e size v n xs := by
  refine ⟨h.1, ?_⟩
  rcases h.2 with hn | ⟨g, cap, cur, rfl, hb, hgg, rest⟩
  · exact .inl hn
  · exact .inr ⟨g, cap, cur, rfl, hb, (k.block g (Array.getElem?_eq_some_iff.1 hgg).1 (hS g rfl)).trans hgg, rest⟩

section
variable {w : World} {b : Nat} {bs gu : Bool → Nat} {hv : Bool → Value} {ba gl gr gf bm most room : Nat} {L : Bool → List (Int × Nat)} {R : Nat → List Nat} {V : Nat → OrdR} {F : Int → Option Int} {l : Bool → List OrdR}

set_option maxRecDepth 100000 in
set_option maxHeartbeats 8000000 in
theorem l_orders (h : BookM w b bs gu hv ba gl gr gf bm most room L R V F l) (q : Bool) :
    Calls Try.prog 31 #[.pointer (some ⟨b, 0, none⟩), .int .u8 (sdN q)] w (ListPost w (l q)) := by
  obtain ⟨i3, hi3, hz3, hs3, hb3⟩ := info_parts Try.infoOrder
  have hle : (l q).length ≤ 256 := by
    have := h.numLe
    have := h.small
    cases q <;> omega
  have HLE := Lib.hid hle
  have HLT := Lib.hid h.lt
  have HSEQ := Lib.hid fun W (o : Only (fun _ => False) w W) (Bs Bb Bl : Nat) (hBs : Cell W Bs 0 (.int .u8 (sdN q))) (hBb : Cell W Bb 0 (.pointer (some ⟨b, 0, none⟩))) (hBl : Cell W Bl 0 (.int .i64 0)) => bk_seq (h.only o (fun _ _ => id)) q 0 hBs hBb hBl
  rw [show (nums (fst most q) (uptoL (sgn q) 0 (L q)) R).map V = l q by rw [h.rep.e q]; rfl] at HSEQ
  have HI := Lib.hid (⟨hi3, hz3, hs3, hb3⟩ : _ ∧ _ ∧ _ ∧ _)
  generalize sdN q = sd at *
  clear h hle hi3 hz3 hs3 hb3
  refine callsIn_wide.1 (callsIn_of_wp_marks (n := 0) Try.func31 rfl trivial (wpIn_wide.2 ?_) rfl)
  simp only [Try.ntmps31, List.size_toArray, List.length_cons, List.length_nil, Nat.reduceAdd, Nat.reduceSub, Array.replicate_succ, Array.replicate_zero, List.push_toArray, List.append_toArray, List.nil_append, List.cons_append]
  go_wp2_with fail
  have o0 : Only (fun _ => False) w ((w.alloc (.cells #[.slice none 0 0] 52)).alloc (.cells #[.slice none 0 0] 52)) := ((Only.refl _ w).alloc _).alloc _
  have c4 := (Cell.new (w := w) (cs := #[.slice none 0 0]) (t := 52) (o := 0) rfl).alloc (.cells #[.slice none 0 0] 52)
  have c5 := Cell.new (w := w.alloc (.cells #[.slice none 0 0] 52)) (cs := #[.slice none 0 0]) (t := 52) (o := 0) rfl
  simp only [World.size_alloc] at c5
  refine (k_orders _ b sd).mono ?_
  intro e Wc hp
  obtain ⟨Bs, Bb, Bl, rfl, oc, cs, cb, cl, gs, gb, gl'⟩ := hp
  have c4 := c4.only oc id
  have c5 := c5.only oc id
  have OWc := o0.trans oc
  have hsz := oc.size
  simp only [World.size_alloc] at hsz gs gb gl'
  clear o0 oc
  go_wp2_with fail
  refine (wpIn_wide (n := 0)).1 ?_
  obtain ⟨N0, hN0⟩ : ∃ N0, w.heap.size = N0 := ⟨_, rfl⟩
  simp only [hN0] at c4 c5 hsz gs gb gl' ⊢
  have hlt : ∀ i, BkT b bs gu hv ba gl gr gf bm i → i < N0 := by rw [← hN0]; exact HLT.out
  have z5 := c5.lt
  refine rangeT (gf := 140) (lb := #[.pointer (some ⟨Bs, 0, none⟩), .pointer (some ⟨Bb, 0, none⟩), .pointer (some ⟨Bl, 0, none⟩)]) rfl (enters_of Try.func140 (by kernel_rfl) rfl)
    (HSEQ.out Wc OWc Bs Bb Bl cs cb cl) (fun _ => rfl) (Nat.le_refl _) (KeepB.refl _ _) ?hK
    (Gath w Wc N0 (N0 + 1)) (fun _ _ _ _ => False) (TL (N0 + 1) (.slice none 0 0)) ?hT ?hI (fun _ _ _ _ _ _ h _ _ => h.elim) ⟨⟨_, rfl, c5, World.ownsRow_nil _ _ _ _⟩, c4, OWc, by simp⟩ ?round ?done ?stop
  case hK =>
    rintro i (hi | rfl | rfl | rfl)
    · have := hlt i hi; omega
    · exact cs.lt
    · exact cb.lt
    · exact cl.lt
  case hT =>
    intro s T A hi i ht
    obtain ⟨v, rfl, hc, ho⟩ := hi.val
    rcases ht with rfl | ht
    · refine ⟨?_, hc.lt⟩
      rintro (hk | hk | hk | hk)
      · have := hlt _ hk; omega
      · omega
      · omega
      · omega
    · have h1 := ho.lt _ ht
      refine ⟨?_, h1.2⟩
      have := cs.lt; have := cb.lt; have := cl.lt
      rintro (hk | hk | hk | hk)
      · have := hlt _ hk; omega
      · omega
      · omega
      · omega
  case hI =>
    intro s T A B S hi ho hS
    obtain ⟨v, rfl, hc, hw⟩ := hi.val
    refine ⟨⟨v, rfl, hc.only ho (fun h => (hS _ h).1 (.inl rfl)), ownsRow_apart hw ho (fun i hv h => (hS i h).1 (.inr hv))⟩, hi.res.only ho (fun h => by have := (hS _ h).2; omega), hi.only.trans' ho (fun i h1 h2 => by have := (hS i h2).2; rw [hN0] at h1; omega), hi.len⟩
  case round =>
    intro l1 s T x A hl1 hszA hrec hTl hi hpre
    obtain ⟨oi, oc, os, op, oq⟩ := x
    unfold encO ordV
    gi_wp2
    refine ⟨(Only.refl _ A).alloc _, fun A1 hi1 o1 hr1 => ?_⟩
    have hlA : l1 < A.heap.size := by obtain ⟨r, hr⟩ := hrec; exact (Array.getElem?_eq_some_iff.1 hr).1
    have h5 := (Five.new A (.int .i64 oi) (.int .i64 oc) (.int .u8 os) (.int .i64 op) (.int .i64 oq) 54).only o1 (show ¬ A.heap.size = l1 by omega)
    have d1 := h5.c0.cell; have d2 := h5.c1.cell; have d3 := h5.c2.cell; have d4 := h5.c3.cell; have d5 := h5.c4.cell
    have zd := cell_lt d1
    obtain ⟨v, rfl, hc, hw⟩ := hi1.val
    obtain ⟨va, vc, hvv, hvcap⟩ := own_slice hw
    have hlen : s.length + 1 ≤ 256 := by
      have h1 := hpre.length_le
      rw [List.length_append] at h1
      exact Nat.le_trans h1 HLE.out
    obtain ⟨hi3, hz3, hs3, hb3⟩ := HI.out
    have hs1 : Wc.heap.size ≤ A1.heap.size := Nat.le_trans hszA (by have := o1.size; rw [World.size_alloc] at this; omega)
    obtain ⟨v', W2, hr2, hw2, hg2, hloc⟩ := append_own (P := Try.prog) (ty := 52) Try.underlying52 hi3 hz3 hs3 hb3 rfl (by decide) (ownsRow_apart hw ((Only.refl (fun _ => False) A1).alloc (.cells #[.int .i64 oi, .int .i64 oc, .int .u8 os, .int .i64 op, .int .i64 oq] 54)) (fun _ _ => id)) ⟨A1.heap.size, 0, none⟩ 1 1 [.int .i64 oi, .int .i64 oc, .int .u8 os, .int .i64 op, .int .i64 oq] rfl (cell_five_new A1 _ _ _ _ _ _) (by simp [Value.oneCell']) (by unfold maxLen; omega) (by omega) (by rw [World.size_alloc]; omega)
    obtain ⟨va', vc', hvv', hvcap'⟩ := own_slice hw2
    have oW2 : Only (TL (N0 + 1) v) A1 W2 := ((Only.refl _ A1).alloc _).trans' (Only.of_grown hg2 (fun r e => e) : Only (fun i => v.ownBlock = some i) _ _) (fun i _ h => .inr h)
    have hbase : ∀ i, v.ownBlock = some i → Wc.heap.size ≤ i := fun i e => (hw.lt _ e).1
    have hne : ¬ v.ownBlock = some (N0 + 1) := fun e => by have := (hw.lt _ e).1; omega
    have hc2 := (hc.alloc (.cells #[.int .i64 oi, .int .i64 oc, .int .u8 os, .int .i64 op, .int .i64 oq] 54)).only (Only.of_grown hg2 (fun r e => e) : Only (fun i => v.ownBlock = some i) _ _) hne
    have hcc := hc.cell
    have hcf := hc2.free
    have hcc2 := hc2.cell
    have hset := (hc2.set v').cell
    have z1 := cell_lt hcc
    have z2 := cell_lt hcc2
    rw [hvv] at hr2 hcc hcc2
    rw [hvv'] at hr2 hset
    have hgt : decide ((512 : Int) < ((s.length + 1 : Nat) : Int)) = false := by simp; omega
    have hgt' : decide (512 < s.length + 1) = false := by simp; omega
    have HI1 := Lib.hid hi1
    have HW2 := Lib.hid hw2
    have HOW2 := Lib.hid oW2
    have HC2 := Lib.hid hc2
    have HLOC := Lib.hid hloc
    have HVV' := Lib.hid hvv'
    clear hi1 hi hw hw2 hg2 hc hc2 h5 hrec hr1 o1 oW2 hloc hvv hvv'
    gi_wp2_with (gi_at_builtin; refine wpListIn_append_run rfl (.tmp 11) (.tmp 13) 52 rfl _ _ _ rfl rfl hr2 ?_)
    rw [← HVV'.out]
    have hi1 := HI1.out
    have oS := (Only.refl (· = N0 + 1) W2).setCell (p := ⟨N0 + 1, 0, none⟩) (.inl rfl) v'
    have OT : Only (TL (N0 + 1) v) A1 (W2.setCell ⟨N0 + 1, 0, none⟩ v') := HOW2.out.setCell (.inl (.inl rfl)) v'
    have hw3 := ownsRow_apart HW2.out oS (fun i hv h => by have := (HW2.out.lt _ hv).1; omega)
    refine ⟨TL (N0 + 1) v', ⟨OT, fun i hi => ?_⟩, ⟨⟨v', rfl, HC2.out.set v', ?_⟩, hi1.res.only OT ?_, hi1.only.trans' OT (fun i h1 h2 => ?_), by rw [List.length_append]; exact hlen⟩⟩
    · rcases hi with rfl | hi
      · exact .inl (.inl rfl)
      · rcases HLOC.out with e | e
        · exact .inl (.inr (by rw [← e]; exact hi))
        · rw [e, World.size_alloc] at hi; injection hi with hi; exact .inr (by omega)
    · rw [List.length_append, ordC_append]; exact hw3
    · rintro (h | h)
      · omega
      · have := hbase _ h; omega
    · rw [hN0] at h1
      rcases h2 with h2 | h2
      · omega
      · have := hbase _ h2; omega
  case done =>
    intro D T B hD hi hTD hdd
    obtain ⟨v, rfl, hc, hw⟩ := hi.val
    obtain ⟨va, vc, hvv, hvcap⟩ := own_slice hw
    have hcc := hc.cell
    have hr0 := hi.res.cell
    have hrf := hi.res.free
    have z1 := cell_lt hcc
    have z2 := cell_lt hr0
    have hset := hi.res.set v
    rw [hvv] at hcc
    have HSET := Lib.hid hset
    have HVV := Lib.hid hvv
    have HW := Lib.hid hw
    have HO := Lib.hid hi.only
    have HDD := Lib.hid hdd
    obtain ⟨k, hk⟩ : ∃ k, k = (l q).length := ⟨_, rfl⟩
    rw [← hk] at HVV hvv hcc HW
    have HKK := Lib.hid hk
    clear hi hw hset hvv hc hdd hk
    go_wp2_with fail
    rw [← HVV.out]
    have oS := (Only.refl (· = N0) B).setCell (p := ⟨N0, 0, none⟩) (.inl rfl) v
    have hw3 := ownsRow_apart HW.out oS (fun i hv h => by have := (HW.out.lt _ hv).1; omega)
    refine leaves_marks [D] _ (by simp) (fun E hE => ?_) (fun w' ho' => ?_)
    · simp only [List.mem_cons, List.mem_nil_iff, or_false] at hE
      subst hE; rw [Below.heap_setCell _ _ _ _ (by show E ≠ N0; omega)]; exact HDD.out
    · have hc2 := (HSET.out.only ho' (fun hD => by simp only [List.mem_cons, List.mem_nil_iff, or_false] at hD; omega)).cell
      have hw4 := ownsRow_apart hw3 ho' (fun i hv h => by
        simp only [List.mem_cons, List.mem_nil_iff, or_false] at h
        subst h; exact hTD (.inr hv))
      refine ⟨v, by simp [results, Try.f31, go_sem, hc2], v, rfl, ?_, ?_⟩
      · rw [hN0, ← HKK.out]; exact ownsRow_base hw4 (by omega)
      · refine (HO.out.trans' oS (fun i h1 h2 => by rw [hN0] at h1; omega)).trans' ho' (fun i h1 h2 => ?_)
        simp only [List.mem_cons, List.mem_nil_iff, or_false] at h2
        rw [hN0] at h1; omega
  case stop => exact fun _ _ _ _ _ _ _ h => h.elim
end
end Go.Proofs.Ytilngakgofjmpaa
