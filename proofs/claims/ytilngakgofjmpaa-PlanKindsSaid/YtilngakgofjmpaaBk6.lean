/- The book: its orders told one by one, up to a limit (the value of upto). Conditions: a book as its New lays it. -/
import Derived.Test.YtilngakgofjmpaaJ5
import Derived.Test.YtilngakgofjmpaaSeqA
import Derived.Test.YtilngakgofjmpaaRin
import Derived.Sort.CutIn
import Derived.Laws.EntriesVeiled
namespace Go.Proofs.Ytilngakgofjmpaa
set_option linter.unusedVariables false
set_option linter.unusedSimpArgs false
open Go.RowKit Go.Shelf
open Od (OrdR Lay FreeN Blk4)
attribute [local go_sem] Oper.semAt_some

def encO (o : OrdR) : Array Value := #[ordV o]
/-- What upto's value reads. -/
def KB (b : Nat) (bs gu : Bool → Nat) (hv : Bool → Value) (ba gl gr gf bm Bs Bb Bl : Nat) (i : Nat) : Prop := BkT b bs gu hv ba gl gr gf bm i ∨ i = Bs ∨ i = Bb ∨ i = Bl

section
variable {w : World} {b : Nat} {bs gu : Bool → Nat} {hv : Bool → Value} {ba gl gr gf bm most room : Nat} {L : Bool → List (Int × Nat)} {R : Nat → List Nat} {V : Nat → OrdR} {F : Int → Option Int} {l : Bool → List OrdR}
theorem BookM.keepB (h : BookM w b bs gu hv ba gl gr gf bm most room L R V F l) {W : World} {S : Nat → Prop} (k : KeepB S w W) (hS : ∀ i, BkT b bs gu hv ba gl gr gf bm i → S i) : BookM W b bs gu hv ba gl gr gf bm most room L R V F l :=
  have kb := k b (hS b (.inl rfl))
  ⟨h.c0.blk kb, h.c1.blk kb, h.c2.blk kb, h.c3.blk kb, h.c4.blk kb, h.c5.blk kb, h.c6.blk kb, fun q => (h.sd q).keepB k fun i hi => hS i (.inr (.inl ⟨q, hi⟩)),
    h.lay.keepB (S := S) k fun i hi => hS i (.inr (.inr (.inl hi))), h.im.blkEq (k bm (hS bm (.inr (.inr (.inr rfl))))), h.rep, h.db, h.ds, h.dq, h.da, h.small⟩

theorem flat_prefix {f : Nat} {U s : List Lvl} {x : Lvl} {s2 : List (Nat × OrdR)} {y : Nat × OrdR} (h1 : s ++ [x] <+: U) (h2 : s2 ++ [y] <+: (R (f + x.2)).map fun n => (n, V n)) :
    (nums f s R).map V ++ s2.map Prod.snd ++ [y.2] <+: (nums f U R).map V := by
  obtain ⟨t, rfl⟩ := h1
  obtain ⟨t2, h2⟩ := h2
  have e : (R (f + x.2)).map V = s2.map Prod.snd ++ [y.2] ++ t2.map Prod.snd := by
    have := congrArg (List.map Prod.snd) h2
    rw [List.map_append, List.map_append, List.map_map] at this
    exact this.symm
  refine ⟨t2.map Prod.snd ++ (nums f t R).map V, ?_⟩
  rw [List.append_assoc s [x] t, nums_append, List.singleton_append, nums_cons, List.map_append, List.map_append, e]
  simp
theorem flat_snoc {f : Nat} (s : List Lvl) (x : Lvl) : (nums f (s ++ [x]) R).map V = (nums f s R).map V ++ ((R (f + x.2)).map fun n => (n, V n)).map Prod.snd := by
  rw [nums_append, List.map_append, nums_cons, List.map_map]
  simp [nums]

/-- What holds between two orders of a row. -/
structure RowI (J : List OrdR → (Nat → Prop) → World → Prop) (W5 A0 : World) (pre : List OrdR) (T : Nat → Prop) (Kp : Nat → Prop) (s : List (Nat × OrdR)) (T2 : Nat → Prop) (A : World) : Prop where
  j : J (pre ++ s.map Prod.snd) T2 A
  turn : Only T A0 A
  grow : ∀ i, T2 i → T i ∨ W5.heap.size ≤ i
  keep : KeepB Kp W5 A
/-- What holds where it is left. -/
structure RowX (Jx : List OrdR → (Nat → Prop) → World → Prop) (W5 A0 : World) (pre : List OrdR) (T : Nat → Prop) (U : List OrdR) (c : Code) (s : List (Nat × OrdR)) (T2 : Nat → Prop) (A : World) : Prop where
  c : c = .ret
  pf : pre ++ s.map Prod.snd <+: U
  j : Jx (pre ++ s.map Prod.snd) T2 A
  turn : Only T A0 A
  grow : ∀ i, T2 i → T i ∨ W5.heap.size ≤ i
/-- What holds between two prices. -/
structure LvI (J : List OrdR → (Nat → Prop) → World → Prop) (f : Nat) (R : Nat → List Nat) (V : Nat → OrdR) (n0 : Nat) (Wc : World) (Kp : Nat → Prop) (s : List Lvl) (T : Nat → Prop) (A : World) : Prop where
  j : J ((nums f s R).map V) T A
  grow : ∀ i, T i → i < n0 ∨ Wc.heap.size ≤ i
  keep : KeepB Kp Wc A
structure LvX (Jx : List OrdR → (Nat → Prop) → World → Prop) (n0 : Nat) (Wc : World) (U : List OrdR) (c : Code) (T : Nat → Prop) (A : World) : Prop where
  c : c = .ret
  j : ∃ s, s <+: U ∧ Jx s T A
  grow : ∀ i, T i → i < n0 ∨ Wc.heap.size ≤ i

theorem keepB_only {K S : Nat → Prop} {w A B : World} (h : KeepB K w A) (o : Only S A B) (hK : ∀ i, K i → i < w.heap.size) (hS : ∀ i, K i → ¬ S i) : KeepB K w B := h.trans fun i hi => o.block i (lt_of_blk (hK i hi) (h i hi)) (hS i hi)

set_option maxRecDepth 100000 in
set_option maxHeartbeats 8000000 in
theorem bk_seq (h : BookM w b bs gu hv ba gl gr gf bm most room L R V F l) (q : Bool) (lim : Int) {Bs Bb Bl : Nat} (hBs : Cell w Bs 0 (.int .u8 (sdN q))) (hBb : Cell w Bb 0 (.pointer (some ⟨b, 0, none⟩))) (hBl : Cell w Bl 0 (.int .i64 lim)) :
    SeqT Try.prog 140 #[.pointer (some ⟨Bs, 0, none⟩), .pointer (some ⟨Bb, 0, none⟩), .pointer (some ⟨Bl, 0, none⟩)] encO (KB b bs gu hv ba gl gr gf bm Bs Bb Bl) ((nums (fst most q) (uptoL (sgn q) lim (L q)) R).map V) w := fun ly J Jx W T0 hsz hK hT hJ hJx hY h0 => by
  have h := h.keepB hK (fun i hi => .inl hi)
  have hBs := (hBs.blk (hK Bs (.inr (.inl rfl))))
  have hBb := (hBb.blk (hK Bb (.inr (.inr (.inl rfl)))))
  have hBl := (hBl.blk (hK Bl (.inr (.inr (.inr rfl)))))
  have hKlt : ∀ i, KB b bs gu hv ba gl gr gf bm Bs Bb Bl i → i < W.heap.size := fun i hi => by
    rcases hi with hi | rfl | rfl | rfl
    · exact h.lt i hi
    · exact hBs.lt
    · exact hBb.lt
    · exact hBl.lt
  have HS := Lib.hid (k_sided (sdN q))
  rw [sided_sdN] at HS
  have cs := hBs.cell
  have cb := hBb.cell
  have cl := hBl.cell
  have zs := cell_lt cs
  have zb := cell_lt cb
  have zl := cell_lt cl
  have HM := Lib.hid h
  have HT := Lib.hid hT
  have HJ := Lib.hid hJ
  have HJX := Lib.hid hJx
  have HY := Lib.hid hY
  have HK := Lib.hid hKlt
  have HBS := Lib.hid hBs
  have HBB := Lib.hid hBb
  have HBL := Lib.hid hBl
  have H0 := Lib.hid h0
  obtain ⟨sd, hsd⟩ : ∃ sd, sd = sdN q := ⟨_, rfl⟩
  rw [← hsd] at HS cs
  have HSD := Lib.hid hsd
  clear h hT hJ hJx hY hK hKlt hBs hBb hBl h0 hsz hsd
  refine callsIn_wide.1 (callsIn_of_wp_marks (n := 0) Try.func140 rfl trivial (wpIn_wide.2 ?_) rfl)
  simp only [Try.ntmps140, List.size_toArray, List.length_cons, List.length_nil, Nat.reduceAdd, Nat.reduceSub, Array.replicate_succ, Array.replicate_zero, List.push_toArray, List.append_toArray, List.nil_append, List.cons_append]
  go_wp2_with fail
  refine (HS.out _).mono ?_
  rintro e w1 ⟨rfl, rfl⟩
  go_wp2_with fail
  have o0 := (Only.refl (fun _ => False) W).alloc (.cells #[.func (.yield ly) #[] #[]] 207)
  have cY := Cell.new (w := W) (cs := #[.func (.yield ly) #[] #[]]) (t := 207) (o := 0) rfl
  have HH := k_half (HM.out.only o0 (fun _ _ => id)) q
  rw [← HSD.out] at HH
  obtain ⟨b1, hb1⟩ : ∃ b1, b1 = bs q := ⟨_, rfl⟩
  rw [← hb1] at HH
  have HB1 := Lib.hid hb1
  obtain ⟨fs, hfs⟩ : ∃ fs, fs = fst most q := ⟨_, rfl⟩
  rw [← hfs] at HH
  have HFS := Lib.hid hfs
  clear hb1 hfs
  refine HH.mono ?_
  clear HH
  rintro e w2 ⟨rfl, o2⟩
  have cY := cY.only o2 id
  have cl2 := ((HBL.out.only o0 id).only o2 id).cell
  have zl2 := cell_lt cl2
  have hsz2 := o2.size
  simp only [World.size_alloc] at hsz2
  have OW2 := Lib.hid (o0.trans o2)
  have CY2 := Lib.hid cY
  clear o0 o2 cY cs cb cl zs zb zl
  go_wp2_with fail
  refine (s_upto _ b1 lim).mono ?_
  rintro e w3 ⟨rfl, rfl⟩
  go_wp2_with fail
  have oc : Only (fun _ => False) w2 (((w2.alloc (.cells #[.pointer (some ⟨b1, 0, none⟩), .int .i64 (fs : Nat)] 150)).alloc (.cells #[.pointer (some ⟨b1, 0, none⟩)] 25)).alloc (.cells #[.int .i64 lim] 2)) := (((Only.refl _ w2).alloc _).alloc _).alloc _
  have cH0 := ((Cell.new (w := w2) (cs := #[.pointer (some ⟨b1, 0, none⟩), .int .i64 (fs : Nat)]) (t := 150) (o := 1) rfl).alloc (.cells #[.pointer (some ⟨b1, 0, none⟩)] 25)).alloc (.cells #[.int .i64 lim] 2)
  have cB1 := (Cell.new (w := (w2.alloc (.cells #[.pointer (some ⟨b1, 0, none⟩), .int .i64 (fs : Nat)] 150))) (cs := #[.pointer (some ⟨b1, 0, none⟩)]) (t := 25) (o := 0) rfl).alloc (.cells #[.int .i64 lim] 2)
  have cB2 := Cell.new (w := ((w2.alloc (.cells #[.pointer (some ⟨b1, 0, none⟩), .int .i64 (fs : Nat)] 150)).alloc (.cells #[.pointer (some ⟨b1, 0, none⟩)] 25))) (cs := #[.int .i64 lim]) (t := 2) (o := 0) rfl
  have hsc : (((w2.alloc (.cells #[.pointer (some ⟨b1, 0, none⟩), .int .i64 (fs : Nat)] 150)).alloc (.cells #[.pointer (some ⟨b1, 0, none⟩)] 25)).alloc (.cells #[.int .i64 lim] 2)).heap.size = w2.heap.size + 3 := by simp
  simp only [World.size_alloc] at cB1 cB2
  obtain ⟨Wc, hWc⟩ : ∃ Wc, (((w2.alloc (.cells #[.pointer (some ⟨b1, 0, none⟩), .int .i64 (fs : Nat)] 150)).alloc (.cells #[.pointer (some ⟨b1, 0, none⟩)] 25)).alloc (.cells #[.int .i64 lim] 2)) = Wc := ⟨_, rfl⟩
  rw [hWc] at oc cH0 cB1 cB2 hsc ⊢
  clear hWc
  have OWc : Only (fun _ => False) W Wc := OW2.out.trans oc
  have hM := HM.out.only OWc (fun _ _ => id)
  have cYc := CY2.out.only oc id
  have HBBc := HBB.out.only OWc id
  obtain ⟨N0, hN0⟩ : ∃ N0, W.heap.size = N0 := ⟨_, rfl⟩
  obtain ⟨gH, hgH⟩ : ∃ gH, w2.heap.size = gH := ⟨_, rfl⟩
  simp only [hN0, hgH] at cH0 cB1 cB2 hsc cYc hsz2 ⊢
  have HJ' : ∀ s T A B S, J s T A → Only S A B → (∀ i, S i → ¬ T i ∧ N0 ≤ i) → J s T B := by rw [← hN0]; exact HJ.out
  have HJX' : ∀ s T A B S, Jx s T A → Only S A B → (∀ i, S i → ¬ T i ∧ N0 ≤ i) → Jx s T B := by rw [← hN0]; exact HJX.out
  have HKN : ∀ i, KB b bs gu hv ba gl gr gf bm Bs Bb Bl i → i < N0 := by rw [← hN0]; exact HK.out
  have HT0 : ∀ i, T0 i → i < N0 := fun i hi => by rw [← hN0]; exact (HT.out _ _ _ H0.out i hi).2
  have hJc : J [] T0 Wc := HJ' _ _ _ _ _ H0.out OWc (fun _ h => h.elim)
  have hsd := hM.sd q
  rw [← HB1.out] at hsd
  refine (wpIn_wide (n := 0)).1 ?_
  obtain ⟨KPc, hKPc⟩ : ∃ KPc : Nat → Prop, KPc = fun i => KB b bs gu hv ba gl gr gf bm Bs Bb Bl i ∨ (N0 ≤ i ∧ i < Wc.heap.size) := ⟨_, rfl⟩
  have hKPlt : ∀ i, KPc i → i < Wc.heap.size := fun i hi => by
    rw [hKPc] at hi
    rcases hi with hi | hi
    · have := HKN i hi; omega
    · exact hi.2
  refine rangeT (gf := 65) (lb := #[.pointer (some ⟨gH + 1, 0, none⟩), .pointer (some ⟨gH + 1 + 1, 0, none⟩)]) rfl (enters_of Try.func65 (by kernel_rfl) rfl)
    (upto_seq cB1 cB2 hsd) (fun _ => rfl) (Nat.le_refl _) (KeepB.refl _ _) ?hK
    (LvI J (fst most q) R V N0 Wc KPc) (fun c _ => LvX Jx N0 Wc ((nums (fst most q) (uptoL (sgn q) lim (L q)) R).map V) c) T0 ?hT ?hI ?hIx ⟨hJc, fun i hi => .inl (HT0 i hi), KeepB.refl _ _⟩ ?round ?done ?stop
  case hK =>
    rintro i (hi | hi | hi)
    · exact hsd.blk i hi
    · omega
    · omega
  case hT =>
    intro s T A hi i ht
    have h1 := HT.out _ _ _ hi.j i ht
    refine ⟨fun hk => ?_, h1.2⟩
    rcases hk with hk | hk | hk
    · exact h1.1 (.inl (.inr (.inl ⟨q, by rw [← HB1.out]; exact hk⟩)))
    · rcases hi.grow i ht with h2 | h2 <;> omega
    · rcases hi.grow i ht with h2 | h2 <;> omega
  case hI =>
    intro s T A B S hi ho hS
    exact ⟨HJ' _ _ _ _ _ hi.j ho (fun i h => ⟨(hS i h).1, by have := (hS i h).2; omega⟩), hi.grow, keepB_only hi.keep ho hKPlt (fun i hk hs => by have := hKPlt i hk; have := (hS i hs).2; omega)⟩
  case hIx =>
    intro c s T A B S hi ho hS
    obtain ⟨s', h1, h2⟩ := hi.j
    exact ⟨hi.c, ⟨s', h1, HJX' _ _ _ _ _ h2 ho (fun i h => ⟨(hS i h).1, by have := (hS i h).2; omega⟩)⟩, hi.grow⟩
  case done =>
    intro D T B hD hi hTD hdd
    have HI := Lib.hid hi.j
    have HDD := Lib.hid hdd
    clear hi hdd
    go_wp2_with fail
    refine leaves_marks [D] _ (by simp) (fun E hE => ?_) (fun w' ho' => ?_)
    · simp only [List.mem_cons, List.mem_nil_iff, or_false] at hE
      subst hE; exact HDD.out
    · refine ⟨_, results_none rfl _ _ _, ?_⟩
      exact ⟨⟨_, rfl⟩, .inl ⟨T, HJ' _ _ _ _ _ HI.out ho' (fun i hi => by
        simp only [List.mem_cons, List.mem_nil_iff, or_false] at hi
        subst hi; exact ⟨hTD, by omega⟩)⟩⟩
  case stop =>
    intro D c s T B hD hs hx hTD hdd
    obtain ⟨rfl, hj, hg⟩ := hx
    have HX := Lib.hid hj
    have HDD := Lib.hid hdd
    clear hj hdd
    refine wpIn_wide.2 ?_
    go_wp2_with fail
    refine leaves_marks [D] _ (by simp) (fun E hE => ?_) (fun w' ho' => ?_)
    · simp only [List.mem_cons, List.mem_nil_iff, or_false] at hE
      subst hE; exact HDD.out
    · refine ⟨_, results_none rfl _ _ _, ?_⟩
      obtain ⟨s', h1, h2⟩ := HX.out
      exact ⟨⟨_, rfl⟩, .inr ⟨s', T, h1, HJX' _ _ _ _ _ h2 ho' (fun i hi => by
        simp only [List.mem_cons, List.mem_nil_iff, or_false] at hi
        subst hi; exact ⟨hTD, by omega⟩)⟩⟩
  case round =>
    intro l1 s T x A hl1 hszA hrec hTl hi hpre
    unfold encU
    gi_wp2
    refine ⟨Only.refl _ _, fun A1 hi1 o1 hr1 => ?_⟩
    obtain ⟨xp, xr⟩ := x
    have hxL : (xp, xr) ∈ L q := by
      obtain ⟨t, ht⟩ := hpre
      have hm : (xp, xr) ∈ uptoL (sgn q) lim (L q) := by rw [← ht]; simp
      unfold uptoL at hm
      split at hm
      · exact hm
      · split at hm
        · exact List.mem_of_mem_take hm
        · exact List.mem_of_mem_take hm
    have hxr := HM.out.rep.lt q _ hxL
    simp only at hxr
    have hM1 := hM.keepB hi1.keep (fun i hi => by rw [hKPc]; exact .inl (.inl hi))
    have k1 : ∀ i, KB b bs gu hv ba gl gr gf bm Bs Bb Bl i → A1.heap[i]? = Wc.heap[i]? := fun i hi => hi1.keep i (by rw [hKPc]; exact .inl hi)
    have k2 : ∀ i, N0 ≤ i → i < Wc.heap.size → A1.heap[i]? = Wc.heap[i]? := fun i h1 h2 => hi1.keep i (by rw [hKPc]; exact .inr ⟨h1, h2⟩)
    have f1 := (HBBc.blk (k1 Bb (.inr (.inr (.inl rfl))))).cell
    have f2 := hM1.c4.cell
    have f3 := (cH0.blk (k2 gH (by omega) (by omega))).cell
    have f4 := cYc.blk (k2 N0 (Nat.le_refl _) (by omega))
    have z1 := cell_lt f1
    have z2 := cell_lt f2
    have z3 := cell_lt f3
    have hfl := fst_le most q
    have hmo := hM1.mostLe
    rw [← HFS.out] at hfl
    have ww : IntKind.i64.wrap ((fs : Int) + (xr : Int)) = (fs : Int) + (xr : Int) := by rw [IntKind.wrap_i64]; omega
    obtain ⟨S1, hS1⟩ : ∃ S1, A1.heap.size = S1 := ⟨_, rfl⟩
    have HS1 := Lib.hid hS1
    have HM1 := Lib.hid hM1
    have HI1 := Lib.hid hi1
    have F4 := Lib.hid f4
    have HXL := Lib.hid hxL
    have HPRE := Lib.hid hpre
    have HR1 := Lib.hid hr1
    have hN1 : Wc.heap.size ≤ S1 := by
      have hlt := Nat.lt_of_lt_of_le hl1 (Nat.le_refl l1)
      rw [← hS1]
      exact Nat.le_trans hszA o1.size
    clear hM1 hi1 f4 hxL hpre hr1 hi k1 k2 hrec hS1 o1
    gi_wp2
    gi_cut [30] from 22 (fun s30 wx => ∃ B3 B4, s30 = .func (.func 138) #[] #[.pointer (some ⟨B3, 0, none⟩), .pointer (some ⟨B4, 0, none⟩)] ∧ Only (fun _ => False) A1 wx ∧ Cell wx B3 0 (.pointer (some ⟨ba, 0, none⟩)) ∧ Cell wx B4 0 (.int .i64 ((fs : Int) + (xr : Int))) ∧ S1 ≤ B3 ∧ S1 ≤ B4)
    case first =>
      refine wpIn_still_tail 8 (by kernel_rfl) (by kernel_rfl) (by kernel_rfl) ?_
      simp only [List.take_succ_cons, List.take_zero, List.drop_succ_cons, List.drop_zero]
      repeat still_step
      refine wpStill_nil ?_
      have hcc := Cell.new (w := A1.drew) (cs := #[.pointer (some ⟨ba, 0, none⟩)]) (t := 146) (o := 0) (v := .pointer (some ⟨ba, 0, none⟩)) rfl
      have hcd := Cell.new (w := (A1.drew.alloc (.cells #[.pointer (some ⟨ba, 0, none⟩)] 146))) (cs := #[.int .i64 ((fs : Int) + (xr : Int))]) (t := 3) (o := 0) (v := .int .i64 ((fs : Int) + (xr : Int))) rfl
      have HCC := Lib.hid (hcc.alloc (.cells #[.int .i64 ((fs : Int) + (xr : Int))] 3))
      have HCD := Lib.hid hcd
      have hs5 : A1.drew.heap.size = S1 := HS1.out
      have HS5 := Lib.hid hs5
      have OA := Lib.hid ((((Only.refl (fun _ => False) A1).drew).alloc (.cells #[.pointer (some ⟨ba, 0, none⟩)] 146)).alloc (.cells #[.int .i64 ((fs : Int) + (xr : Int))] 3))
      clear hcc hcd hs5
      go_wp2_with fail
      refine (Od.s_all _ ba ((fs : Int) + (xr : Int))).mono ?_
      rintro e w4 ⟨rfl, rfl⟩
      go_wp2_with fail
      rename_i hMeet hK'
      refine ⟨rfl, ?_⟩
      refine hK' _ _ (Met.intro (hMeet _ _ ?_))
      repeat apply Exists.intro
      refine ⟨?rel, rfl⟩
      refine ⟨_, _, rfl, OA.out, HCC.out, ?_, ?_, ?_⟩
      · have := HCD.out
        rw [World.size_alloc] at this
        exact this
      · exact Nat.le_of_eq HS5.out.symm
      · exact Nat.le_succ_of_le (Nat.le_of_eq HS5.out.symm)
    case rest =>
      obtain ⟨B3, B4, rfl, ow, cB3, cB4, hB3, hB4⟩ := hcut
      have HM1c := Lib.hid (HM1.out.only ow (fun _ _ => id))
      have HI1c := Lib.hid (LvI.mk (HJ' _ _ _ _ _ HI1.out.j ow (fun _ h => h.elim)) HI1.out.grow (keepB_only HI1.out.keep ow hKPlt (fun _ _ h => h.elim)) : LvI J (fst most q) R V N0 Wc KPc s T wc)
      have hrc : ∃ r, wc.heap[l1]? = some (.loop r) := by
        obtain ⟨r, hr⟩ := HR1.out
        exact ⟨r, (ow.block l1 (Array.getElem?_eq_some_iff.1 hr).1 id).trans hr⟩
      have hb34 : B3 < wc.heap.size ∧ B4 < wc.heap.size := ⟨cB3.lt, cB4.lt⟩
      have hrow : fs + xr < 2 * most + 1 := by omega
      have hsw := ow.size
      rw [HS1.out] at hsw
      rw [← Int.natCast_add] at cB4
      gi_wp2
      obtain ⟨KPr, hKPr⟩ : ∃ KPr : Nat → Prop, KPr = fun i => KPc i ∨ i = B3 ∨ i = B4 := ⟨_, rfl⟩
      have hKRlt : ∀ i, KPr i → i < wc.heap.size := fun i hi => by
        rw [hKPr] at hi
        rcases hi with hi | hi | hi
        · have := hKPlt i hi; omega
        · omega
        · omega
      have hgr := HI1c.out.grow
      have hTlt : ∀ i, T i → i < A1.heap.size := fun i hi => (HT.out _ _ _ HI1.out.j i hi).2
      rw [HS1.out] at hTlt
      refine rangeN hrc (gf := 138) (lb := #[.pointer (some ⟨B3, 0, none⟩), .pointer (some ⟨B4, 0, none⟩)]) rfl (enters_of Try.func138 (by kernel_rfl) rfl)
        (all_seq (V := V) hrow cB3 cB4 HM1c.out.lay) (fun _ => rfl) (Nat.le_refl _) (KeepB.refl _ _) ?hK2
        (RowI J wc A1 ((nums (fst most q) s R).map V) T KPr) (RowX Jx wc A1 ((nums (fst most q) s R).map V) T ((nums (fst most q) (uptoL (sgn q) lim (L q)) R).map V)) T ?hT2 ?hI2 ?hIx2 ⟨by simpa using HI1c.out.j, Only.of_none ow, fun i hi => .inl hi, KeepB.refl _ _⟩ ?round2 ?done2 ?stop2
      case hK2 =>
        rintro i (hi | hi | hi)
        · exact HM1c.out.lay.blk i hi
        · omega
        · omega
      case hT2 =>
        intro s2 T2 A hi i ht
        have h1 := HT.out _ _ _ hi.j i ht
        refine ⟨fun hk => ?_, h1.2⟩
        rcases hk with hk | hk | hk
        · exact h1.1 (.inl (.inr (.inr (.inl hk))))
        · rcases hi.grow i ht with h2 | h2
          · have := hTlt i h2; omega
          · omega
        · rcases hi.grow i ht with h2 | h2
          · have := hTlt i h2; omega
          · omega
      case hI2 =>
        intro s2 T2 A B S hi ho hS
        refine ⟨HJ' _ _ _ _ _ hi.j ho (fun i h => ⟨(hS i h).1, by have := (hS i h).2; omega⟩), hi.turn.trans' ho (fun i h1 h2 => by have := (hS i h2).2; have := HS1.out; omega), hi.grow, keepB_only hi.keep ho hKRlt (fun i hk hs => by have := hKRlt i hk; have := (hS i hs).2; omega)⟩
      case hIx2 =>
        intro c s2 T2 A B S hi ho hS
        exact ⟨hi.c, hi.pf, HJX' _ _ _ _ _ hi.j ho (fun i h => ⟨(hS i h).1, by have := (hS i h).2; omega⟩), hi.turn.trans' ho (fun i h1 h2 => by have := (hS i h2).2; have := HS1.out; omega), hi.grow⟩
      case round2 =>
        intro l2 s2 T2 y A hl2 hszA2 hrec2 hTl2 hi hpre2
        obtain ⟨yn, oi, oc, os, op, oq⟩ := y
        unfold Od.encI
        gi_wp2
        refine ⟨(Only.refl _ A).alloc _, fun A3 hi3 o3 hr3 => ?_⟩
        have hcx := Five.new A (.int .i64 oi) (.int .i64 oc) (.int .u8 os) (.int .i64 op) (.int .i64 oq) 54
        have hlA : l2 < A.heap.size := by obtain ⟨r, hr⟩ := hrec2; exact (Array.getElem?_eq_some_iff.1 hr).1
        have h5 := hcx.only o3 (show ¬ A.heap.size = l2 by omega)
        have d1 := h5.c0.cell; have d2 := h5.c1.cell; have d3 := h5.c2.cell; have d4 := h5.c3.cell; have d5 := h5.c4.cell
        have zd := cell_lt d1
        have f4 := ((F4.out.only ow id).blk (hi3.keep N0 (by rw [hKPr]; exact .inl (by rw [hKPc]; exact .inr ⟨Nat.le_refl _, by omega⟩)))).cell
        have z4 := cell_lt f4
        have hpf := flat_prefix (V := V) HPRE.out (by have hq := hpre2; rw [HFS.out] at hq; exact hq)
        have hYY := HY.out _ T2 ⟨oi, oc, os, op, oq⟩ A3 hi3.j hpf
        obtain ⟨fn, tmps, assign, body, hy, hR⟩ := yield_in (m' := 0) l2 hYY
        unfold encO ordV at hy
        dsimp only at hy
        have HI3 := Lib.hid hi3
        have HPF := Lib.hid hpf
        have hs3 : wc.heap.size ≤ A3.heap.size := Nat.le_trans hszA2 (by have := o3.size; rw [World.size_alloc] at this; omega)
        have hdis : ∀ i, T2 i → ¬ KPr i := fun i ht hk => by
          have h1 := HT.out _ _ _ hi3.j i ht
          rw [hKPr, hKPc] at hk
          rcases hk with (hk | hk) | hk | hk
          · exact h1.1 hk
          · rcases hi3.grow i ht with h2 | h2
            · rcases hgr i h2 with h3 | h3 <;> omega
            · omega
          · rcases hi3.grow i ht with h2 | h2
            · have := hTlt i h2; omega
            · omega
          · rcases hi3.grow i ht with h2 | h2
            · have := hTlt i h2; omega
            · omega
        have HDIS := Lib.hid hdis
        have HCOM := Lib.hid fun (W3 : World) (T' : Nat → Prop) (ht : Turn T2 A3 W3 T') => (⟨hi3.turn.trans' ht.1 (fun i h1 h2 => by
            rcases hi3.grow i h2 with h3 | h3
            · exact h3
            · have := HS1.out; omega), fun i h1 => by
            rcases ht.2 i h1 with h2 | h2
            · exact hi3.grow i h2
            · exact .inr (Nat.le_trans hs3 h2)⟩ : Only T A1 W3 ∧ ∀ i, T' i → T i ∨ wc.heap.size ≤ i)
        clear hcx hlA h5 hpf hYY hi3 hpre2 hi hrec2 hr3 o3 hdis
        gi_wp2
        refine ⟨rfl, ?_⟩
        refine hR.mono ?_
        rintro e W3 ⟨T', ht, (⟨rfl, hJ3⟩ | ⟨rfl, hJx3⟩)⟩
        · have HTU := Lib.hid ht
          clear ht
          gi_wp2
          have hc := HCOM.out _ _ HTU.out
          refine ⟨T', HTU.out, ⟨by rw [List.map_append, ← List.append_assoc]; exact hJ3, hc.1, hc.2, ?_⟩⟩
          exact HI3.out.keep.trans (KeepB.turn HTU.out HDIS.out (fun i hi => Nat.lt_of_lt_of_le (hKRlt i hi) hs3))
        · have HTU := Lib.hid ht
          clear ht
          gi_wp2
          have hc := HCOM.out _ _ HTU.out
          exact ⟨T', HTU.out, ⟨rfl, by rw [List.map_append, ← List.append_assoc]; exact HPF.out, by rw [List.map_append, ← List.append_assoc]; exact hJx3, hc.1, hc.2⟩⟩
      case done2 =>
        intro T2 B hi
        have HI := Lib.hid hi
        clear hi
        gi_wp2
        have hi := HI.out
        refine ⟨T2, ⟨hi.turn, fun i h1 => ?_⟩, ⟨?_, fun i h1 => ?_, ?_⟩⟩
        · rcases hi.grow i h1 with h2 | h2
          · exact .inl h2
          · exact .inr (by have := HS1.out; omega)
        · have h1 := hi.j
          rw [HFS.out] at h1
          rw [flat_snoc]; exact h1
        · rcases hi.grow i h1 with h2 | h2
          · exact hgr i h2
          · exact .inr (by omega)
        · exact HI1c.out.keep.trans fun i h1 => hi.keep i (by rw [hKPr]; exact .inl h1)
      case stop2 =>
        intro c s2 T2 B hs hx
        obtain ⟨rfl, hpf, hj, ht, hg⟩ := hx
        have HX := Lib.hid (⟨hpf, hj, ht, hg⟩ : _ ∧ _ ∧ _ ∧ _)
        clear hpf hj ht hg
        gi_wp2
        obtain ⟨hpf, hj, ht, hg⟩ := HX.out
        refine ⟨T2, ⟨ht, fun i h1 => ?_⟩, ⟨rfl, ⟨_, hpf, hj⟩, fun i h1 => ?_⟩⟩
        · rcases hg i h1 with h2 | h2
          · exact .inl h2
          · exact .inr (by have := HS1.out; omega)
        · rcases hg i h1 with h2 | h2
          · exact hgr i h2
          · exact .inr (by omega)


theorem k_upto (w : World) (b : Nat) (s lim : Int) :
    Calls Try.prog 113 #[.pointer (some ⟨b, 0, none⟩), .int .u8 s, .int .i64 lim] w fun e w' => e = .returned (.func (.func 140) #[] #[.pointer (some ⟨w.heap.size + 1, 0, none⟩), .pointer (some ⟨w.heap.size, 0, none⟩), .pointer (some ⟨w.heap.size + 2, 0, none⟩)]) ∧
      w' = ((w.alloc (.cells #[.pointer (some ⟨b, 0, none⟩)] 55)).alloc (.cells #[.int .u8 s] 24)).alloc (.cells #[.int .i64 lim] 2) := by
  go_enter Try.func113, Try.ntmps113
  go_wp2
  go_returns
  first | exact ⟨rfl, rfl⟩ | (simp; done)
/-- An iterator of the book's orders, in three boxes. -/
def ItPost (w : World) (b : Nat) (s lim : Int) (e : Ending) (w' : World) : Prop :=
  ∃ Bs Bb Bl, e = .returned (.func (.func 140) #[] #[.pointer (some ⟨Bs, 0, none⟩), .pointer (some ⟨Bb, 0, none⟩), .pointer (some ⟨Bl, 0, none⟩)]) ∧ Only (fun _ => False) w w' ∧ Cell w' Bs 0 (.int .u8 s) ∧ Cell w' Bb 0 (.pointer (some ⟨b, 0, none⟩)) ∧ Cell w' Bl 0 (.int .i64 lim) ∧ w.heap.size ≤ Bs ∧ w.heap.size ≤ Bb ∧ w.heap.size ≤ Bl
theorem k_upto_it (w : World) (b : Nat) (s lim : Int) : Calls Try.prog 113 #[.pointer (some ⟨b, 0, none⟩), .int .u8 s, .int .i64 lim] w (ItPost w b s lim) := by
  refine (k_upto w b s lim).mono ?_
  rintro e w' ⟨rfl, rfl⟩
  have c1 := ((Cell.new (w := w) (cs := #[.pointer (some ⟨b, 0, none⟩)]) (t := 55) (o := 0) rfl).alloc (.cells #[.int .u8 s] 24)).alloc (.cells #[.int .i64 lim] 2)
  have c2 := (Cell.new (w := w.alloc (.cells #[.pointer (some ⟨b, 0, none⟩)] 55)) (cs := #[.int .u8 s]) (t := 24) (o := 0) rfl).alloc (.cells #[.int .i64 lim] 2)
  have c3 := Cell.new (w := (w.alloc (.cells #[.pointer (some ⟨b, 0, none⟩)] 55)).alloc (.cells #[.int .u8 s] 24)) (cs := #[.int .i64 lim]) (t := 2) (o := 0) rfl
  simp only [World.size_alloc] at c2 c3
  exact ⟨_, _, _, rfl, (((Only.refl _ w).alloc _).alloc _).alloc _, c2, c1, c3, by omega, by omega, by omega⟩
theorem k_orders (w : World) (b : Nat) (s : Int) : Calls Try.prog 79 #[.pointer (some ⟨b, 0, none⟩), .int .u8 s] w (ItPost w b s 0) := by
  have H := Lib.hid (k_upto_it w b s 0)
  go_enter Try.func79, Try.ntmps79
  go_wp2_with fail
  refine H.out.mono ?_
  intro e w1 hp
  obtain ⟨Bs, Bb, Bl, rfl, h1⟩ := hp
  have H1 := Lib.hid h1
  clear h1
  go_wp2_with fail
  go_returns
  exact ⟨Bs, Bb, Bl, rfl, H1.out⟩
end
end Go.Proofs.Ytilngakgofjmpaa
