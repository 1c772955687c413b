/- The book: Depth. Conditions: a book as its New lays it. -/
import Derived.Test.YtilngakgofjmpaaBk9
namespace Go.Proofs.Ytilngakgofjmpaa
set_option linter.unusedVariables false
set_option linter.unusedSimpArgs false
open Go.RowKit Go.Shelf
open Od (OrdR Lay FreeN Blk4)
attribute [local go_sem] Oper.semAt_some

/-- A level: its price, its lots, its orders. -/
structure LvR where
  p : Int
  q : Int
  n : Int
def sumQ (l : List OrdR) : Int := l.foldr (fun o s => o.q + s) 0
theorem sumQ_nil : sumQ [] = 0 := rfl
theorem sumQ_cons (o : OrdR) (l : List OrdR) : sumQ (o :: l) = o.q + sumQ l := rfl
theorem sumQ_append (l m : List OrdR) : sumQ (l ++ m) = sumQ l + sumQ m := by
  induction l with
  | nil => simp [sumQ_nil]
  | cons x t ih => rw [List.cons_append, sumQ_cons, sumQ_cons, ih]; omega
theorem sumQ_bd {l : List OrdR} (h : ∀ o ∈ l, 1 ≤ o.q ∧ o.q ≤ 1000000000) : 0 ≤ sumQ l ∧ sumQ l ≤ l.length * 1000000000 := by
  induction l with
  | nil => simp [sumQ_nil]
  | cons x t ih =>
    have h1 := h x (by simp)
    have h2 := ih (fun o ho => h o (by simp [ho]))
    rw [sumQ_cons, List.length_cons]
    omega
/-- A side's levels. -/
def depthL : List OrdR → List LvR
  | [] => []
  | o :: t => match depthL t with
    | [] => [⟨o.p, o.q, 1⟩]
    | x :: r => if x.p = o.p then ⟨o.p, o.q + x.q, x.n + 1⟩ :: r else ⟨o.p, o.q, 1⟩ :: x :: r
theorem depthL_group {p : Int} {Y : List OrdR} (hY : ∀ x r, depthL Y = x :: r → x.p ≠ p) : ∀ X : List OrdR, X ≠ [] → (∀ o ∈ X, o.p = p) → depthL (X ++ Y) = ⟨p, sumQ X, X.length⟩ :: depthL Y := by
  intro X
  induction X with
  | nil => intro h; exact absurd rfl h
  | cons o t ih =>
    intro _ hX
    have ho := hX o (by simp)
    cases t with
    | nil =>
      show (match depthL Y with | [] => [⟨o.p, o.q, 1⟩] | x :: r => if x.p = o.p then ⟨o.p, o.q + x.q, x.n + 1⟩ :: r else ⟨o.p, o.q, 1⟩ :: x :: r : List LvR) = _
      cases e : depthL Y with
      | nil => simp [ho, sumQ]
      | cons x r =>
        have := hY x r e
        simp only
        rw [ho, if_neg this]
        simp [sumQ]
    | cons o2 t2 =>
      have := ih (by simp) (fun x hx => hX x (by simp [hx]))
      show (match depthL ((o2 :: t2) ++ Y) with | [] => [⟨o.p, o.q, 1⟩] | x :: r => if x.p = o.p then ⟨o.p, o.q + x.q, x.n + 1⟩ :: r else ⟨o.p, o.q, 1⟩ :: x :: r : List LvR) = _
      rw [this]
      simp only
      rw [if_pos ho.symm, ho]
      simp only [sumQ_cons, List.length_cons]
      congr 2
def lvOf (f : Nat) (R : Nat → List Nat) (V : Nat → OrdR) (x : Lvl) : LvR := ⟨x.1, sumQ ((R (f + x.2)).map V), (R (f + x.2)).length⟩
theorem depth_nums {side sg : Int} {first most : Nat} {R : Nat → List Nat} {V : Nat → OrdR} : ∀ {L : List (Int × Nat)}, Half side first most L R V → Srt sg L → depthL ((nums first L R).map V) = L.map (lvOf first R V) := by
  intro L h
  have hne := h.ne
  have hpr := h.pr
  clear h
  induction L with
  | nil => intro _; rfl
  | cons x t ih =>
    intro hs
    have s2 := List.pairwise_cons.1 hs
    have IH := ih (fun y hy => hne y (by simp [hy])) (fun y hy => hpr y (by simp [hy])) s2.2
    rw [nums_cons, List.map_append, depthL_group (p := x.1), IH, List.map_cons]
    · simp [lvOf]
    · intro y r e
      rw [IH] at e
      cases t with
      | nil => cases e
      | cons z r2 =>
        rw [List.map_cons] at e
        injection e with e1 e2
        have := s2.1 z (by simp)
        rw [← e1]
        intro e3
        have e3 : z.1 = x.1 := e3
        rw [e3] at this
        omega
    · simpa using hne x (by simp)
    · intro o ho
      obtain ⟨n, hn, rfl⟩ := List.mem_map.1 ho
      exact (hpr x (by simp) n hn).1

/-- The cells of a list of levels. -/
def lvlC (l : List LvR) : List Value := l.flatMap fun o => [.int .i64 o.p, .int .i64 o.q, .int .i64 o.n]
theorem lvlC_append (l m : List LvR) : lvlC (l ++ m) = lvlC l ++ lvlC m := by simp [lvlC]
theorem Try.infoApiLevel : (Try.prog.info? 94).map (fun i => (i.zero, i.size, i.bytes)) = some (some (.agg #[.int .i64 0, .int .i64 0, .int .i64 0]), 3, 24) := by kernel_rfl
theorem cell_three_new (w : World) (x0 x1 x2 : Value) (t : TypeId) : ∀ j u, [x0, x1, x2][j]? = some u → (w.alloc (.cells #[x0, x1, x2] t)).cell? ((⟨w.heap.size, 0, none⟩ : Addr).add j) = some u := by
  intro j u h
  rw [show (⟨w.heap.size, 0, none⟩ : Addr).add j = ⟨w.heap.size, j, none⟩ by unfold Addr.add; split <;> simp_all]
  exact (Cell.new (cs := #[x0, x1, x2]) (by simpa using h)).cell
/-- What Depth hands back. -/
def LvPost (w : World) (l : List LvR) (e : Ending) (w' : World) : Prop := ∃ v, e = .returned v ∧ w'.ownsRow w.heap.size 94 3 v l.length (lvlC l) ∧ Only (fun _ => False) w w'

/-- The levels so far. -/
structure GathD (w Wc : World) (B n : Nat) (g : Lvl → LvR) (s : List Lvl) (T : Nat → Prop) (A : World) : Prop where
  val : ∃ v, T = TL B v ∧ Cell A B 0 v ∧ A.ownsRow Wc.heap.size 94 3 v s.length (lvlC (s.map g))
  only : Only (· = B) Wc A
  len : s.length ≤ n
/-- Left: there are so many. -/
structure GathX (w Wc : World) (B n id : Nat) (g : Lvl → LvR) (c : Code) (s : List Lvl) (T : Nat → Prop) (A : World) : Prop where
  c : c = .exit id
  val : ∃ v pre x, s = pre ++ [x] ∧ pre.length = n ∧ T = TL B v ∧ Cell A B 0 v ∧ A.ownsRow Wc.heap.size 94 3 v pre.length (lvlC (pre.map g))
  only : Only (· = B) Wc A

/-- A level being summed up. -/
structure LvIn (wc : World) (g : Nat) (xp : Int) (s : List (Nat × OrdR)) (T : Nat → Prop) (A : World) : Prop where
  t : T = (· = g)
  only : Only (· = g) wc A
  c0 : Cell A g 0 (.int .i64 xp)
  c1 : Cell A g 1 (.int .i64 (sumQ (s.map Prod.snd)))
  c2 : Cell A g 2 (.int .i64 (s.length : Nat))

section
variable {w : World} {b : Nat} {bs gu : Bool → Nat} {hv : Bool → Value} {ba gl gr gf bm most room : Nat} {L : Bool → List (Int × Nat)} {R : Nat → List Nat} {V : Nat → OrdR} {F : Int → Option Int} {l : Bool → List OrdR}
theorem k_depth_side (w : World) (b : Nat) (s n : Int) (hs : sidedB s = false) : Calls Try.prog 41 #[.pointer (some ⟨b, 0, none⟩), .int .u8 s, .int .i64 n] w (LvPost w []) := by
  have H := Lib.hid (k_sided s)
  rw [hs] at H
  clear hs
  refine callsIn_wide.1 (callsIn_of_wp_marks (n := 0) Try.func41 rfl trivial (wpIn_wide.2 ?_) rfl)
  simp only [Try.ntmps41, List.size_toArray, List.length_cons, List.length_nil, Nat.reduceAdd, Nat.reduceSub, Array.replicate_succ, Array.replicate_zero, List.push_toArray, List.append_toArray, List.nil_append, List.cons_append]
  go_wp2_with fail
  refine (H.out _).mono ?_
  rintro e w1 ⟨rfl, rfl⟩
  go_wp2_with fail
  refine leaves_marks [] _ (by simp) (fun E hE => by cases hE) (fun w' ho' => ?_)
  exact ⟨.slice none 0 0, by simp [results, Try.f41, go_sem], _, rfl, World.ownsRow_nil _ _ _ _, ((((Only.refl (fun _ => False) w).alloc _).alloc _).alloc _).trans (ho'.mono fun i _ hi => by cases hi)⟩

theorem k_depth_low (w : World) (b : Nat) (q : Bool) (n : Int) (hn : n < 1) : Calls Try.prog 41 #[.pointer (some ⟨b, 0, none⟩), .int .u8 (sdN q), .int .i64 n] w (LvPost w []) := by
  have H := Lib.hid (k_sided (sdN q))
  rw [sided_sdN] at H
  have t1 : decide (n < 1) = true := by simpa using hn
  clear hn
  refine callsIn_wide.1 (callsIn_of_wp_marks (n := 0) Try.func41 rfl trivial (wpIn_wide.2 ?_) rfl)
  simp only [Try.ntmps41, List.size_toArray, List.length_cons, List.length_nil, Nat.reduceAdd, Nat.reduceSub, Array.replicate_succ, Array.replicate_zero, List.push_toArray, List.append_toArray, List.nil_append, List.cons_append]
  go_wp2_with fail
  refine (H.out _).mono ?_
  rintro e w1 ⟨rfl, rfl⟩
  go_wp2_with fail
  refine leaves_marks [] _ (by simp) (fun E hE => by cases hE) (fun w' ho' => ?_)
  exact ⟨.slice none 0 0, by simp [results, Try.f41, go_sem], _, rfl, World.ownsRow_nil _ _ _ _, ((((Only.refl (fun _ => False) w).alloc _).alloc _).alloc _).trans (ho'.mono fun i _ hi => by cases hi)⟩

set_option maxRecDepth 100000 in
set_option maxHeartbeats 8000000 in
theorem k_depth (h : BookM w b bs gu hv ba gl gr gf bm most room L R V F l) (q : Bool) (n : Nat) (hn : 1 ≤ n) (hn2 : n ≤ 9223372036854775807) :
    Calls Try.prog 41 #[.pointer (some ⟨b, 0, none⟩), .int .u8 (sdN q), .int .i64 (n : Nat)] w (LvPost w ((depthL (l q)).take n)) := by
  obtain ⟨i3, hi3, hz3, hs3, hb3⟩ := info_parts Try.infoApiLevel
  have HI := Lib.hid (⟨hi3, hz3, hs3, hb3⟩ : _ ∧ _ ∧ _ ∧ _)
  have HLT := Lib.hid h.lt
  have HM := Lib.hid h
  have HS := Lib.hid (k_sided (sdN q))
  rw [sided_sdN] at HS
  have HD := Lib.hid (show depthL (l q) = (L q).map (lvOf (fst most q) R V) by rw [h.rep.e q]; exact depth_nums (h.rep.half q) (h.sd q).srt)
  have HBD := Lib.hid fun (r : Nat) (s : List (Nat × OrdR)) (hr : ∃ p, (p, r) ∈ L q) (hs : s <+: (R (fst most q + r)).map fun n => (n, V n)) => (show (0 ≤ sumQ (s.map Prod.snd) ∧ sumQ (s.map Prod.snd) ≤ 256000000000) ∧ s.length ≤ 256 by
    obtain ⟨p, hp⟩ := hr
    have hmem : ∀ o ∈ s.map Prod.snd, 1 ≤ o.q ∧ o.q ≤ 1000000000 := fun o ho => by
      obtain ⟨y, hy, rfl⟩ := List.mem_map.1 ho
      have hy2 := hs.subset hy
      obtain ⟨n, hn, rfl⟩ := List.mem_map.1 hy2
      have := h.rep.ok q _ (h.rep.mem (mem_nums.2 ⟨(p, r), hp, hn⟩))
      exact ⟨this.2.2.2.2.2.2.1, this.2.2.2.2.2.2.2⟩
    have hlen : s.length ≤ 256 := by
      have h1 := hs.length_le
      rw [List.length_map] at h1
      obtain ⟨A, C, hA⟩ := List.append_of_mem hp
      have h2 := congrArg List.length (h.rep.e q)
      rw [hA, nums_append, nums_cons, List.length_map] at h2
      simp only [List.length_append] at h2
      have h3 := h.numLe
      have h4 := h.small
      cases q <;> omega
    have h5 := sumQ_bd hmem
    rw [List.length_map] at h5
    refine ⟨⟨h5.1, ?_⟩, hlen⟩
    omega)
  have HH := Lib.hid fun W (o : Only (fun _ => False) w W) => k_half (h.only o (fun _ _ => id)) q
  have HSEQ := Lib.hid fun W (o : Only (fun _ => False) w W) => SideU.only (h.sd q) o (fun _ _ => id)
  obtain ⟨sd, hsd⟩ : ∃ sd, sd = sdN q := ⟨_, rfl⟩
  rw [← hsd] at HS HH ⊢
  obtain ⟨b1, hb1⟩ : ∃ b1, b1 = bs q := ⟨_, rfl⟩
  rw [← hb1] at HH HSEQ
  have HB1 := Lib.hid hb1
  obtain ⟨fs, hfs⟩ : ∃ fs, fs = fst most q := ⟨_, rfl⟩
  rw [← hfs] at HH HD
  have HFS := Lib.hid hfs
  have t1 : decide ((n : Int) < 1) = false := by simp; omega
  have HN1 := Lib.hid hn
  clear h hi3 hz3 hs3 hb3 hsd hb1 hfs
  refine callsIn_wide.1 (callsIn_of_wp_marks (n := 0) Try.func41 rfl trivial (wpIn_wide.2 ?_) rfl)
  simp only [Try.ntmps41, List.size_toArray, List.length_cons, List.length_nil, Nat.reduceAdd, Nat.reduceSub, Array.replicate_succ, Array.replicate_zero, List.push_toArray, List.append_toArray, List.nil_append, List.cons_append]
  go_wp2_with fail
  refine (HS.out _).mono ?_
  rintro e w1 ⟨rfl, rfl⟩
  go_wp2_with fail
  have o0 : Only (fun _ => False) w (((w.alloc (.cells #[.pointer (some ⟨b, 0, none⟩)] 55)).alloc (.cells #[.int .i64 (n : Nat)] 3)).alloc (.cells #[.slice none 0 0] 90)) := (((Only.refl _ w).alloc _).alloc _).alloc _
  have c3 := ((Cell.new (w := w) (cs := #[.pointer (some ⟨b, 0, none⟩)]) (t := 55) (o := 0) rfl).alloc (.cells #[.int .i64 (n : Nat)] 3)).alloc (.cells #[.slice none 0 0] 90)
  have c5 := (Cell.new (w := w.alloc (.cells #[.pointer (some ⟨b, 0, none⟩)] 55)) (cs := #[.int .i64 (n : Nat)]) (t := 3) (o := 0) rfl).alloc (.cells #[.slice none 0 0] 90)
  have c7 := Cell.new (w := (w.alloc (.cells #[.pointer (some ⟨b, 0, none⟩)] 55)).alloc (.cells #[.int .i64 (n : Nat)] 3)) (cs := #[.slice none 0 0]) (t := 90) (o := 0) rfl
  have HH := HH.out _ o0
  simp only [World.size_alloc] at c5 c7
  refine HH.mono ?_
  clear HH
  rintro e w2 ⟨rfl, o2⟩
  have c3 := c3.only o2 id
  have c5 := c5.only o2 id
  have c7 := c7.only o2 id
  have hsz2 := o2.size
  simp only [World.size_alloc] at hsz2
  have OW2 := o0.trans o2
  clear o0 o2
  go_wp2_with fail
  refine (s_upto _ b1 0).mono ?_
  rintro e w3 ⟨rfl, rfl⟩
  go_wp2_with fail
  have oc : Only (fun _ => False) w2 (((w2.alloc (.cells #[.pointer (some ⟨b1, 0, none⟩), .int .i64 (fs : Nat)] 150)).alloc (.cells #[.pointer (some ⟨b1, 0, none⟩)] 25)).alloc (.cells #[.int .i64 0] 2)) := (((Only.refl _ w2).alloc _).alloc _).alloc _
  have cH := ((Cell.new (w := w2) (cs := #[.pointer (some ⟨b1, 0, none⟩), .int .i64 (fs : Nat)]) (t := 150) (o := 1) rfl).alloc (.cells #[.pointer (some ⟨b1, 0, none⟩)] 25)).alloc (.cells #[.int .i64 0] 2)
  have cB1 := (Cell.new (w := (w2.alloc (.cells #[.pointer (some ⟨b1, 0, none⟩), .int .i64 (fs : Nat)] 150))) (cs := #[.pointer (some ⟨b1, 0, none⟩)]) (t := 25) (o := 0) rfl).alloc (.cells #[.int .i64 0] 2)
  have cB2 := Cell.new (w := ((w2.alloc (.cells #[.pointer (some ⟨b1, 0, none⟩), .int .i64 (fs : Nat)] 150)).alloc (.cells #[.pointer (some ⟨b1, 0, none⟩)] 25))) (cs := #[.int .i64 0]) (t := 2) (o := 0) rfl
  have hsc : (((w2.alloc (.cells #[.pointer (some ⟨b1, 0, none⟩), .int .i64 (fs : Nat)] 150)).alloc (.cells #[.pointer (some ⟨b1, 0, none⟩)] 25)).alloc (.cells #[.int .i64 0] 2)).heap.size = w2.heap.size + 3 := by simp
  simp only [World.size_alloc] at cB1 cB2
  obtain ⟨Wc, hWc⟩ : ∃ Wc, (((w2.alloc (.cells #[.pointer (some ⟨b1, 0, none⟩), .int .i64 (fs : Nat)] 150)).alloc (.cells #[.pointer (some ⟨b1, 0, none⟩)] 25)).alloc (.cells #[.int .i64 0] 2)) = Wc := ⟨_, rfl⟩
  rw [hWc] at oc cH cB1 cB2 hsc ⊢
  clear hWc
  have OWc : Only (fun _ => False) w Wc := OW2.trans oc
  have hM := HM.out.only OWc (fun _ _ => id)
  have c3 := c3.only oc id
  have c5 := c5.only oc id
  have c7 := c7.only oc id
  obtain ⟨N0, hN0⟩ : ∃ N0, w.heap.size = N0 := ⟨_, rfl⟩
  obtain ⟨gH, hgH⟩ : ∃ gH, w2.heap.size = gH := ⟨_, rfl⟩
  simp only [hN0, hgH] at cH cB1 cB2 hsc c3 c5 c7 hsz2 ⊢
  have hlt : ∀ i, BkT b bs gu hv ba gl gr gf bm i → i < N0 := by rw [← hN0]; exact HLT.out
  have hsd := HSEQ.out Wc OWc
  have hpd := HD.out
  refine (wpIn_wide (n := 0)).1 ?_
  refine rangeT (gf := 65) (lb := #[.pointer (some ⟨gH + 1, 0, none⟩), .pointer (some ⟨gH + 1 + 1, 0, none⟩)]) rfl (enters_of Try.func65 (by kernel_rfl) rfl)
    (upto_seq cB1 cB2 hsd) (fun _ => rfl) (Nat.le_refl _) (KeepB.refl _ _) ?hK
    (GathD w Wc (N0 + 1 + 1) n (lvOf fs R V)) (GathX w Wc (N0 + 1 + 1) n 0 (lvOf fs R V)) (TL (N0 + 1 + 1) (.slice none 0 0)) ?hT ?hI ?hIx ⟨⟨_, rfl, c7, World.ownsRow_nil _ _ _ _⟩, Only.refl _ _, by simp⟩ ?round ?done ?stop
  case hK =>
    rintro i (hi | hi | hi)
    · exact hsd.blk i hi
    · omega
    · omega
  case hT =>
    intro s T A hi i ht
    obtain ⟨v, rfl, hc, ho⟩ := hi.val
    have hq : ∀ i, SdB b1 (gu q) (hv q) i → i < N0 := fun i h => hlt i (.inr (.inl ⟨q, by rw [← HB1.out]; exact h⟩))
    rcases ht with rfl | ht
    · refine ⟨?_, hc.lt⟩
      rintro (hk | hk | hk)
      · have := hq _ hk; omega
      · omega
      · omega
    · have h1 := ho.lt _ ht
      refine ⟨?_, h1.2⟩
      rintro (hk | hk | hk)
      · have := hq _ hk; omega
      · omega
      · omega
  case hI =>
    intro s T A B S hi ho hS
    obtain ⟨v, rfl, hc, hw⟩ := hi.val
    exact ⟨⟨v, rfl, hc.only ho (fun h => (hS _ h).1 (.inl rfl)), ownsRow_apart hw ho (fun i hv h => (hS i h).1 (.inr hv))⟩, hi.only.trans' ho (fun i h1 h2 => by have := (hS i h2).2; omega), hi.len⟩
  case hIx =>
    intro c s T A B S hi ho hS
    obtain ⟨v, pre, x, e1, e2, rfl, hc, hw⟩ := hi.val
    exact ⟨hi.c, ⟨v, pre, x, e1, e2, rfl, hc.only ho (fun h => (hS _ h).1 (.inl rfl)), ownsRow_apart hw ho (fun i hv h => (hS i h).1 (.inr hv))⟩, hi.only.trans' ho (fun i h1 h2 => by have := (hS i h2).2; omega)⟩
  case round =>
    intro l1 s T x A hl1 hszA hrec hTl hi hpre
    obtain ⟨xp, xr⟩ := x
    unfold encU
    gi_wp2
    refine ⟨Only.refl _ _, fun A1 hi1 o1 hr1 => ?_⟩
    obtain ⟨v, rfl, hc, hw⟩ := hi1.val
    obtain ⟨va, vc, hvv, hvcap⟩ := own_slice hw
    have hsz1 : Wc.heap.size ≤ A1.heap.size := Nat.le_trans hszA o1.size
    have d3 := (c3.only hi1.only (show ¬ N0 = N0 + 1 + 1 by omega)).cell
    have d5 := (c5.only hi1.only (show ¬ N0 + 1 = N0 + 1 + 1 by omega)).cell
    have d7 := hc.cell
    have d8 := (cH.only hi1.only (show ¬ gH = N0 + 1 + 1 by omega)).cell
    have z3 := cell_lt d3
    have z5 := cell_lt d5
    have z7 := cell_lt d7
    have z8 := cell_lt d8
    rw [hvv] at d7
    by_cases hfull : s.length = n
    · have t2 : ((s.length : Int) == (n : Int)) = true := by simp [hfull]
      have t2' : (s.length == n) = true := by simp [hfull]
      have HF := Lib.hid hfull
      have HI1 := Lib.hid hi1
      have HC := Lib.hid hc
      have HW := Lib.hid hw
      clear hfull hi1 hi hrec hr1 o1 hc hw hvv
      gi_wp2
      exact ⟨TL (N0 + 1 + 1) v, ⟨Only.refl _ _, fun i hi => .inl hi⟩, ⟨rfl, ⟨v, s, (xp, xr), rfl, HF.out, rfl, HC.out, HW.out⟩, HI1.out.only⟩⟩
    · have hless : s.length + 1 ≤ n := by have := hi1.len; omega
      have t2 : ((s.length : Int) == (n : Int)) = false := by simp; omega
      have t2' : (s.length == n) = false := by simp; omega
      have hxL : (xp, xr) ∈ L q := by
        obtain ⟨t, ht⟩ := hpre
        rw [show uptoL (sgn q) 0 (L q) = L q from rfl] at ht
        rw [← ht]; simp
      have hs128 : s.length + 1 ≤ 128 := by
        have h1 := hpre.length_le
        rw [show uptoL (sgn q) 0 (L q) = L q from rfl, List.length_append] at h1
        have h2 := (HM.out.sd q).len
        have h3 := HM.out.mostLe
        simp at h1
        omega
      have hxr := HM.out.rep.lt q _ hxL
      simp only at hxr
      have hM1 := hM.only hi1.only (fun i hi => by have := hlt i hi; show ¬ i = N0 + 1 + 1; omega)
      have d4 := hM1.c4.cell
      have z4 := cell_lt d4
      have hfl := fst_le most q
      have hmo := hM1.mostLe
      rw [← HFS.out] at hfl
      have ww : IntKind.i64.wrap ((fs : Int) + (xr : Int)) = (fs : Int) + (xr : Int) := by rw [IntKind.wrap_i64]; omega
      obtain ⟨S1, hS1⟩ : ∃ S1, A1.heap.size = S1 := ⟨_, rfl⟩
      have HS1 := Lib.hid hS1
      have oL := (Only.refl (fun _ => False) A1).alloc (.cells #[.int .i64 xp, .int .i64 0, .int .i64 0] 94)
      have cL : ∀ o v, (#[.int .i64 xp, .int .i64 0, .int .i64 0] : Array Value)[o]? = some v → Cell (A1.alloc (.cells #[.int .i64 xp, .int .i64 0, .int .i64 0] 94)) A1.heap.size o v := fun o v hv => Cell.new hv
      have HM1 := Lib.hid hM1
      have HI1 := Lib.hid hi1
      have HC := Lib.hid hc
      have HW := Lib.hid hw
      have HXL := Lib.hid hxL
      have HVV := Lib.hid hvv
      have hr1' : ∃ r, A1.heap[l1]? = some (.loop r) := hr1
      have HR1 := Lib.hid hr1'
      obtain ⟨A2, hA2⟩ : ∃ A2, A1.alloc (.cells #[.int .i64 xp, .int .i64 0, .int .i64 0] 94) = A2 := ⟨_, rfl⟩
      rw [hS1, hA2] at cL
      rw [hA2] at oL
      have zS : S1 < A2.heap.size := (cL 0 _ rfl).lt
      have HA2 := Lib.hid hA2
      have HOL := Lib.hid oL
      have HCL := Lib.hid cL
      have hs1S : Wc.heap.size ≤ S1 := by rw [← hS1]; exact hsz1
      have e3 := oL.cell d3 id
      have e4 := oL.cell d4 id
      have e8 := oL.cell d8 id
      have y3 := cell_lt e3
      have y4 := cell_lt e4
      have y8 := cell_lt e8
      clear hfull hM1 hi1 hi hrec hr1 hr1' o1 hc hw hvv hxL hS1 hA2 oL cL
      gi_upto_region 10 with fail
      rw [HS1.out, HA2.out]
      clear d3 d4 d8 z3 z4 z8 d5 d7 z5 z7
      gi_cut [43] from 35 (fun s43 wx => ∃ B3 B4, s43 = .func (.func 138) #[] #[.pointer (some ⟨B3, 0, none⟩), .pointer (some ⟨B4, 0, none⟩)] ∧ Only (fun _ => False) A2 wx ∧ Cell wx B3 0 (.pointer (some ⟨ba, 0, none⟩)) ∧ Cell wx B4 0 (.int .i64 ((fs : Int) + (xr : Int))) ∧ A2.heap.size ≤ B3 ∧ A2.heap.size ≤ B4)
      case first =>
        refine wpIn_still_tail 8 (by kernel_rfl) (by kernel_rfl) (by kernel_rfl) ?_
        simp only [List.take_succ_cons, List.take_zero, List.drop_succ_cons, List.drop_zero]
        repeat still_step
        refine wpStill_nil ?_
        have hcc := Cell.new (w := A2.drew) (cs := #[.pointer (some ⟨ba, 0, none⟩)]) (t := 146) (o := 0) (v := .pointer (some ⟨ba, 0, none⟩)) rfl
        have hcd := Cell.new (w := (A2.drew.alloc (.cells #[.pointer (some ⟨ba, 0, none⟩)] 146))) (cs := #[.int .i64 ((fs : Int) + (xr : Int))]) (t := 3) (o := 0) (v := .int .i64 ((fs : Int) + (xr : Int))) rfl
        have HCC := Lib.hid (hcc.alloc (.cells #[.int .i64 ((fs : Int) + (xr : Int))] 3))
        have HCD := Lib.hid hcd
        have OA := Lib.hid ((((Only.refl (fun _ => False) A2).drew).alloc (.cells #[.pointer (some ⟨ba, 0, none⟩)] 146)).alloc (.cells #[.int .i64 ((fs : Int) + (xr : Int))] 3))
        clear hcc hcd
        go_wp2_with fail
        refine (Od.s_all _ ba ((fs : Int) + (xr : Int))).mono ?_
        rintro e w4 ⟨rfl, rfl⟩
        go_wp2_with fail
        rename_i hMeet hK'
        refine ⟨rfl, ?_⟩
        refine hK' _ _ (Met.intro (hMeet _ _ ?_))
        repeat apply Exists.intro
        refine ⟨?rel, rfl⟩
        refine ⟨_, _, rfl, OA.out, HCC.out, ?_, ?_, ?_⟩
        · have := HCD.out
          rw [World.size_alloc] at this
          exact this
        · exact Nat.le_refl _
        · exact Nat.le_succ _
      case rest =>
        obtain ⟨B3, B4, rfl, ow, cB3, cB4, hB3, hB4⟩ := hcut
        clear e3 e4 e8 y3 y4 y8
        have hrc : ∃ r, wc.heap[l1]? = some (.loop r) := by
          obtain ⟨r, hr⟩ := HR1.out
          exact ⟨r, ((HOL.out.trans ow).block l1 (Array.getElem?_eq_some_iff.1 hr).1 id).trans hr⟩
        have O1c : Only (fun _ => False) A1 wc := HOL.out.trans ow
        have hMc := HM1.out.only O1c (fun _ _ => id)
        have hb34 : B3 < wc.heap.size ∧ B4 < wc.heap.size := ⟨cB3.lt, cB4.lt⟩
        have hrow : fs + xr < 2 * most + 1 := by omega
        have hsw := ow.size
        rw [← Int.natCast_add] at cB4
        have g0 := (HCL.out 0 _ rfl).only ow id
        have g1 := (HCL.out 1 _ rfl).only ow id
        have g2 := (HCL.out 2 _ rfl).only ow id
        have HMC := Lib.hid hMc
        have O1C := Lib.hid O1c
        clear hMc O1c
        gi_wp2
        refine rangeN hrc (gf := 138) (lb := #[.pointer (some ⟨B3, 0, none⟩), .pointer (some ⟨B4, 0, none⟩)]) rfl (enters_of Try.func138 (by kernel_rfl) rfl)
          (all_seq (V := V) hrow cB3 cB4 HMC.out.lay) (fun _ => rfl) (Nat.le_refl _) (KeepB.refl _ _) ?hK2
          (LvIn wc S1 xp) (fun _ _ _ _ => False) (· = S1) ?hT2 ?hI2 (fun _ _ _ _ _ _ h _ _ => h.elim) ⟨rfl, Only.refl _ _, g0, g1, g2⟩ ?round2 ?done2 (fun _ _ _ _ _ h => h.elim)
        case hK2 =>
          rintro i (hi | hi | hi)
          · exact HMC.out.lay.blk i hi
          · omega
          · omega
        case hT2 =>
          intro s2 T2 A hi i ht
          obtain rfl := hi.t
          have ht : i = S1 := ht
          refine ⟨?_, by rw [ht]; exact hi.c0.lt⟩
          rintro (hk | hk | hk)
          · have := hlt i (.inr (.inr (.inl hk))); omega
          · omega
          · omega
        case hI2 =>
          intro s2 T2 A B S hi ho hS
          obtain rfl := hi.t
          have hn : ¬ S S1 := fun h => (hS _ h).1 rfl
          exact ⟨rfl, hi.only.trans' ho (fun i h5 h6 => by have := (hS i h6).2; omega), hi.c0.only ho hn, hi.c1.only ho hn, hi.c2.only ho hn⟩
        case round2 =>
          intro l2 s2 T2 y A hl2 hszA2 hrec2 hTl2 hi hpre2
          have hbd := HBD.out xr (s2 ++ [y]) ⟨xp, HXL.out⟩ (by rw [HFS.out] at hpre2; exact hpre2)
          obtain ⟨yn, oi, oc, os, op, oq⟩ := y
          unfold Od.encI
          gi_wp2
          refine ⟨(Only.refl _ A).alloc _, fun A3 hi3 o3 hr3 => ?_⟩
          have hlA : l2 < A.heap.size := by obtain ⟨r, hr⟩ := hrec2; exact (Array.getElem?_eq_some_iff.1 hr).1
          have h5 := (Five.new A (.int .i64 oi) (.int .i64 oc) (.int .u8 os) (.int .i64 op) (.int .i64 oq) 54).only o3 (show ¬ A.heap.size = l2 by omega)
          have d5 := h5.c4.cell
          obtain rfl := hi3.t
          have q1 := hi3.c1.cell
          have q2 := hi3.c2.cell
          have f1 := hi3.c1.free
          have f2 := hi3.c2.free
          have zd := cell_lt d5
          have zq := cell_lt q1
          rw [List.map_append, sumQ_append, List.length_append] at hbd
          simp only [List.map_cons, List.map_nil, sumQ_cons, sumQ_nil, List.length_cons, List.length_nil] at hbd
          obtain ⟨sm, hsm⟩ : ∃ sm, sm = sumQ (s2.map Prod.snd) := ⟨_, rfl⟩
          obtain ⟨ct, hct⟩ : ∃ ct, ct = s2.length := ⟨_, rfl⟩
          rw [← hsm] at q1 hbd
          rw [← hct] at q2 hbd
          have w1 : IntKind.i64.wrap (sm + oq) = sm + oq := by rw [IntKind.wrap_i64]; omega
          have w2 : IntKind.i64.wrap ((ct : Int) + 1) = (ct : Int) + 1 := by rw [IntKind.wrap_i64]; omega
          have K1 := (hi3.c0.far (off_ne (b := S1) (o := 1) (by decide)) (.int .i64 (sm + oq))).far (off_ne (b := S1) (o := 2) (by decide)) (.int .i64 ((ct : Int) + 1))
          have K2 := (hi3.c1.set (.int .i64 (sm + oq))).far (off_ne (b := S1) (o := 2) (by decide)) (.int .i64 ((ct : Int) + 1))
          have K3 := (hi3.c2.far (off_ne (b := S1) (o := 1) (by decide)) (.int .i64 (sm + oq))).set (.int .i64 ((ct : Int) + 1))
          have OT := ((Only.refl (· = S1) A3).setCell (p := ⟨S1, 1, none⟩) (.inl rfl) (.int .i64 (sm + oq))).setCell (p := ⟨S1, 2, none⟩) (.inl rfl) (.int .i64 ((ct : Int) + 1))
          have HFIN := Lib.hid (⟨K1, K2, K3, OT, hi3.only.trans OT⟩ : _ ∧ _ ∧ _ ∧ _ ∧ _)
          have HSM := Lib.hid hsm
          have HCT := Lib.hid hct
          clear hi3 hi h5 o3 hr3 hrec2 hpre2 K1 K2 K3 OT hsm hct
          gi_wp2
          obtain ⟨K1, K2, K3, OT, OW⟩ := HFIN.out
          refine ⟨(· = S1), ⟨OT, fun i hi => .inl hi⟩, ⟨rfl, OW, K1, ?_, ?_⟩⟩
          · rw [List.map_append, sumQ_append, ← HSM.out]
            simp only [List.map_cons, List.map_nil, sumQ_cons, sumQ_nil, Int.add_zero]
            exact K2
          · rw [List.length_append, ← HCT.out]
            exact K3
        case done2 =>
          intro T2 B hi
          obtain rfl := hi.t
          have hS1v : ∀ i, v.ownBlock = some i → i < S1 := fun i e => by rw [← HS1.out]; exact (HW.out.lt i e).2
          have q0 := hi.c0.cell
          have q1 := hi.c1.cell
          have q2 := hi.c2.cell
          have hcB := (HC.out.only O1C.out id).only hi.only (show ¬ N0 + 1 + 1 = S1 by omega)
          have hwB := ownsRow_apart (ownsRow_apart HW.out O1C.out (fun _ _ => id)) hi.only (fun i e (h : i = S1) => by have := hS1v i e; omega)
          have hbase : ∀ i, v.ownBlock = some i → Wc.heap.size ≤ i := fun i e => (HW.out.lt _ e).1
          obtain ⟨hi3, hz3, hs3, hb3⟩ := HI.out
          obtain ⟨sm, hsm⟩ : ∃ sm, sm = sumQ ((((R (fs + xr)).map fun n => (n, V n)) : List (Nat × OrdR)).map Prod.snd) := ⟨_, rfl⟩
          obtain ⟨ct, hct⟩ : ∃ ct, ct = (((R (fs + xr)).map fun n => (n, V n)) : List (Nat × OrdR)).length := ⟨_, rfl⟩
          rw [← hsm] at q1
          rw [← hct] at q2
          have hOB : Only (· = S1) wc B := hi.only
          have hszB := hOB.size
          obtain ⟨v', W2, hr2, hw2, hg2, hloc⟩ := append_own (P := Try.prog) (ty := 90) Try.underlying90 hi3 hz3 hs3 hb3 rfl (by decide) (ownsRow_apart hwB ((Only.refl (fun _ => False) B).alloc (.cells #[.int .i64 xp, .int .i64 sm, .int .i64 (ct : Nat)] 94)) (fun _ _ => id)) ⟨B.heap.size, 0, none⟩ 1 1 [.int .i64 xp, .int .i64 sm, .int .i64 (ct : Nat)] rfl (cell_three_new B _ _ _ _) (by simp [Value.oneCell']) (by unfold maxLen; omega) (by omega) (by rw [World.size_alloc]; omega)
          obtain ⟨va', vc', hvv', hvcap'⟩ := own_slice hw2
          have oW2 : Only (TL (N0 + 1 + 1) v) B W2 := ((Only.refl _ B).alloc _).trans' (Only.of_grown hg2 (fun r e => e) : Only (fun i => v.ownBlock = some i) _ _) (fun i _ h => .inr h)
          have hne : ¬ v.ownBlock = some (N0 + 1 + 1) := fun e => by have := hbase _ e; omega
          have hc2 := (hcB.alloc (.cells #[.int .i64 xp, .int .i64 sm, .int .i64 (ct : Nat)] 94)).only (Only.of_grown hg2 (fun r e => e) : Only (fun i => v.ownBlock = some i) _ _) hne
          have hcc := hcB.cell
          have hcf := hc2.free
          have hcc2 := hc2.cell
          have zq := cell_lt q0
          have z1 := cell_lt hcc
          have z2 := cell_lt hcc2
          rw [HVV.out] at hr2 hcc hcc2
          rw [hvv'] at hr2
          have HOB := Lib.hid hOB
          have HW2 := Lib.hid hw2
          have HOW2 := Lib.hid oW2
          have HC2 := Lib.hid hc2
          have HLOC := Lib.hid hloc
          have HVV' := Lib.hid hvv'
          have HSM := Lib.hid hsm
          have HCT := Lib.hid hct
          clear hi hcB hwB hw2 hg2 hc2 hOB oW2 hloc hvv' hsm hct hi3 hz3 hs3 hb3
          gi_wp2_with (gi_at_builtin; refine wpListIn_append_run rfl (.tmp 56) (.tmp 58) 90 rfl _ _ _ rfl rfl hr2 ?_)
          rw [← HVV'.out]
          have oS := (Only.refl (· = N0 + 1 + 1) W2).setCell (p := ⟨N0 + 1 + 1, 0, none⟩) (.inl rfl) v'
          have hw3 := ownsRow_apart HW2.out oS (fun i hv h => by have := (HW2.out.lt _ hv).1; omega)
          have OB : Only (TL (N0 + 1 + 1) v) A1 (W2.setCell ⟨N0 + 1 + 1, 0, none⟩ v') := (((O1C.out.trans' HOB.out (fun i h1 h2 => by have := HS1.out; omega)).mono (fun _ _ h => h.elim)).trans HOW2.out).setCell (.inl (.inl rfl)) v'
          refine ⟨TL (N0 + 1 + 1) v', ⟨OB, fun i hi => ?_⟩, ⟨⟨v', rfl, HC2.out.set v', ?_⟩, ?_, by rw [List.length_append]; exact hless⟩⟩
          · rcases hi with rfl | hi
            · exact .inl (.inl rfl)
            · rcases HLOC.out with e | e
              · exact .inl (.inr (by rw [← e]; exact hi))
              · rw [e, World.size_alloc] at hi
                injection hi with hi
                have := O1C.out.size
                exact .inr (by omega)
          · rw [List.length_append, List.map_append, lvlC_append]
            have e : lvlC ([(xp, xr)].map (lvOf fs R V)) = [.int .i64 xp, .int .i64 sm, .int .i64 (ct : Nat)] := by
              rw [HSM.out, HCT.out, List.map_map, List.length_map]; rfl
            rw [e]; exact hw3
          · refine HI1.out.only.trans' OB (fun i h1 h2 => ?_)
            rcases h2 with h2 | h2
            · exact h2
            · have := hbase _ h2; omega
  case done =>
    intro D T B hD hi hTD hdd
    obtain ⟨v, rfl, hc, hw⟩ := hi.val
    have ho := hi.only
    rw [show uptoL (sgn q) 0 (L q) = L q from rfl] at hw
    have hlen := hi.len
    rw [show uptoL (sgn q) 0 (L q) = L q from rfl] at hlen
    have hlist : (depthL (l q)).take n = (L q).map (lvOf fs R V) := by rw [hpd]; exact List.take_of_length_le (by rw [List.length_map]; exact hlen)
    obtain ⟨va, vc, hvv, hvcap⟩ := own_slice hw
    have hcc := hc.cell
    have z1 := cell_lt hcc
    rw [hvv] at hcc
    have HVV := Lib.hid hvv
    have HW := Lib.hid hw
    have HO := Lib.hid ho
    have HDD := Lib.hid hdd
    have HL := Lib.hid hlist
    clear hw hc hvv hdd ho hlist hi hlen
    obtain ⟨k, hk⟩ : ∃ k, k = (L q).length := ⟨_, rfl⟩
    rw [← hk] at HVV hcc HW
    have HK := Lib.hid hk
    clear hk
    go_wp2_with fail
    rw [← HVV.out]
    refine leaves_marks [D] _ (by simp) (fun E hE => ?_) (fun w' ho' => ?_)
    · simp only [List.mem_cons, List.mem_nil_iff, or_false] at hE
      subst hE; exact HDD.out
    · have hw4 := ownsRow_apart HW.out ho' (fun i hv h => by
        simp only [List.mem_cons, List.mem_nil_iff, or_false] at h
        subst h; exact hTD (.inr hv))
      refine ⟨v, by simp [results, Try.f41, go_sem], v, rfl, ?_, ?_⟩
      · rw [hN0, HL.out, List.length_map, ← HK.out]
        exact ownsRow_base hw4 (by omega)
      · refine (OWc.trans' HO.out (fun i h1 h2 => by rw [hN0] at h1; omega)).trans' ho' (fun i h1 h2 => ?_)
        simp only [List.mem_cons, List.mem_nil_iff, or_false] at h2
        rw [hN0] at h1; omega
  case stop =>
    intro D c s T B hD hs hx hTD hdd
    obtain ⟨rfl, hval, ho⟩ := hx
    obtain ⟨v, pre, x, rfl, hpl, rfl, hc, hw⟩ := hval
    rw [show uptoL (sgn q) 0 (L q) = L q from rfl] at hs
    have hlist : (depthL (l q)).take n = pre.map (lvOf fs R V) := by
      obtain ⟨t, ht⟩ := hs
      rw [hpd, ← ht, List.append_assoc, List.map_append, ← hpl]
      exact List.take_left' (by rw [List.length_map])
    obtain ⟨va, vc, hvv, hvcap⟩ := own_slice hw
    have hcc := hc.cell
    have z1 := cell_lt hcc
    rw [hvv] at hcc
    have HVV := Lib.hid hvv
    have HW := Lib.hid hw
    have HO := Lib.hid ho
    have HDD := Lib.hid hdd
    have HL := Lib.hid hlist
    clear hw hc hvv hdd ho hlist hs hpl
    obtain ⟨k, hk⟩ : ∃ k, k = pre.length := ⟨_, rfl⟩
    rw [← hk] at HVV hcc HW
    have HK := Lib.hid hk
    clear hk
    refine wpIn_wide.2 ?_
    go_wp2_with fail
    rw [← HVV.out]
    refine leaves_marks [D] _ (by simp) (fun E hE => ?_) (fun w' ho' => ?_)
    · simp only [List.mem_cons, List.mem_nil_iff, or_false] at hE
      subst hE; exact HDD.out
    · have hw4 := ownsRow_apart HW.out ho' (fun i hv h => by
        simp only [List.mem_cons, List.mem_nil_iff, or_false] at h
        subst h; exact hTD (.inr hv))
      refine ⟨v, by simp [results, Try.f41, go_sem], v, rfl, ?_, ?_⟩
      · rw [hN0, HL.out, List.length_map, ← HK.out]
        exact ownsRow_base hw4 (by omega)
      · refine (OWc.trans' HO.out (fun i h1 h2 => by rw [hN0] at h1; omega)).trans' ho' (fun i h1 h2 => ?_)
        simp only [List.mem_cons, List.mem_nil_iff, or_false] at h2
        rw [hN0] at h1; omega
end
end Go.Proofs.Ytilngakgofjmpaa
