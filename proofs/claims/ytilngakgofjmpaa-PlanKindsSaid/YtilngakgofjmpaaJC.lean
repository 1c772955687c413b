/- Plan: how much others have open that face an entry (the code's lots). Conditions: a book as its New lays it. -/
import Derived.Test.YtilngakgofjmpaaBkG
import Derived.Test.YtilngakgofjmpaaJ8
import Derived.Test.YtilngakgofjmpaaR6s
import Derived.Test.YtilngakgofjmpaaPlf
namespace Go.Proofs.Ytilngakgofjmpaa
set_option linter.unusedVariables false
set_option linter.unusedSimpArgs false
open Go.RowKit Go.Shelf
open Od (OrdR)
attribute [local go_sem] Oper.semAt_some

theorem facO_mem {l : Bool → List OrdR} {s lim : Int} {x : OrdR} (h : x ∈ facO l s lim) : ∃ q, x ∈ l q := by
  have hf : ∀ {sg : Int} {m : List OrdR}, x ∈ facL sg lim m → x ∈ m := fun {sg m} h => by
    unfold facL at h
    split at h
    · exact h
    · exact (List.mem_filter.1 h).1
  unfold facO at h
  split at h
  · exact ⟨_, hf h⟩
  · split at h
    · exact ⟨_, hf h⟩
    · cases h
/-- Summed so far. -/
structure LotI (Wc : World) (B : Nat) (c : Int) (s : List OrdR) (T : Nat → Prop) (A : World) : Prop where
  t : T = (· = B)
  c : Cell A B 0 (.int .i64 (lotsO c s))
  only : Only (· = B) Wc A

set_option maxRecDepth 100000 in
set_option maxHeartbeats 8000000 in
theorem k_lots {w : World} {b most room : Nat} {T : Nat → Prop} {l : Bool → List OrdR} (h : Bk w b T most room l) (e : EnR) :
    Calls Try.prog 146 #[.pointer (some ⟨b, 0, none⟩), enV e] w fun en w' => en = .returned (.int .i64 (lotsO e.c (facO l e.s e.p))) ∧ Only (fun _ => False) w w' := by
  obtain ⟨ec, ek, es, ep, eq⟩ := e
  unfold enV
  simp only
  have hg := h.good
  have hle : (facO l es ep).length ≤ 256 := by
    have h1 := hg.len
    have h2 := hg.small.1
    have h3 := facO_len l es ep
    omega
  have hok : ∀ x ∈ facO l es ep, 1 ≤ x.q ∧ x.q ≤ 1000000000 := fun x hx => by
    obtain ⟨q, hq⟩ := facO_mem hx
    exact (hg.ok q x hq).2.2.2.2.2.2
  have hbd : ∀ s, s <+: facO l es ep → 0 ≤ lotsO ec s ∧ lotsO ec s ≤ 256000000000 := fun s hs => by
    have h1 := lotsO_bd (c := ec) (L := s) (fun x hx => hok x (hs.subset hx))
    have h2 := hs.length_le
    omega
  have HBD := Lib.hid hbd
  have HOK := Lib.hid hok
  have HLT := Lib.hid h.lt
  have HSEQ := Lib.hid fun W (o : Only (fun _ => False) w W) (Bs Bb Bl : Nat) (hBs : Cell W Bs 0 (.int .u8 (facS es))) (hBb : Cell W Bb 0 (.pointer (some ⟨b, 0, none⟩))) (hBl : Cell W Bl 0 (.int .i64 (if sidedB es then ep else 0))) => bk_fac_iter (h.only o (fun _ _ => id)) es ep hBs hBb hBl
  obtain ⟨xs, hxs⟩ : ∃ xs, xs = facO l es ep := ⟨_, rfl⟩
  rw [← hxs] at HSEQ HBD HOK ⊢
  obtain ⟨m, hm⟩ : ∃ m, m = lotsO ec xs := ⟨_, rfl⟩
  rw [← hm]
  have HM := Lib.hid hm
  clear h hg hle hok hbd hxs hm
  refine callsIn_wide.1 (callsIn_of_wp_marks (n := 0) Try.func146 rfl trivial (wpIn_wide.2 ?_) rfl)
  simp only [Try.ntmps146, List.size_toArray, List.length_cons, List.length_nil, Nat.reduceAdd, Nat.reduceSub, Array.replicate_succ, Array.replicate_zero, List.push_toArray, List.append_toArray, List.nil_append, List.cons_append]
  go_upto_region 1 with fail
  have o0 : Only (fun _ => False) w ((w.alloc (.cells #[.int .i64 ec, .int .u8 ek, .int .u8 es, .int .i64 ep, .int .i64 eq] 111)).alloc (.cells #[.int .i64 0] 2)) := ((Only.refl _ w).alloc _).alloc _
  have hE : ∀ (o : Nat) (v : Value), (#[.int .i64 ec, .int .u8 ek, .int .u8 es, .int .i64 ep, .int .i64 eq] : Array Value)[o]? = some v → Cell ((w.alloc (.cells #[.int .i64 ec, .int .u8 ek, .int .u8 es, .int .i64 ep, .int .i64 eq] 111)).alloc (.cells #[.int .i64 0] 2)) w.heap.size o v := fun o v hv => (Cell.new hv).alloc _
  have e0 := hE 0 _ rfl
  have e2 := hE 2 _ rfl
  have e3 := hE 3 _ rfl
  have c4 := Cell.new (w := w.alloc (.cells #[.int .i64 ec, .int .u8 ek, .int .u8 es, .int .i64 ep, .int .i64 eq] 111)) (cs := #[.int .i64 0]) (t := 2) (o := 0) rfl
  simp only [World.size_alloc] at c4
  obtain ⟨W0, hW0⟩ : ∃ W0, ((w.alloc (.cells #[.int .i64 ec, .int .u8 ek, .int .u8 es, .int .i64 ep, .int .i64 eq] 111)).alloc (.cells #[.int .i64 0] 2)) = W0 := ⟨_, rfl⟩
  rw [hW0] at o0 e0 e2 e3 c4 ⊢
  clear hW0 hE
  obtain ⟨N0, hN0⟩ : ∃ N0, w.heap.size = N0 := ⟨_, rfl⟩
  simp only [hN0] at e0 e2 e3 c4 ⊢
  have hlt : ∀ i, T i → i < N0 := by rw [← hN0]; exact HLT.out
  have HN0 := Lib.hid hN0
  have HC := Lib.hid (⟨o0, e0, c4⟩ : Only (fun _ => False) w W0 ∧ _ ∧ _)
  have d2 := e2.cell
  have d3 := e3.cell
  have z0 := cell_lt d2
  have z05 := c4.lt
  clear o0 e0 e2 e3 c4 hN0
  go_wp2_with fail
  refine (k_facing _ b es ep).mono ?_
  intro e Wc hp
  obtain ⟨Bs, Bb, Bl, rfl, oc, cs, cb, cl, gs, gb, gl'⟩ := hp
  obtain ⟨o0, e0, c4⟩ := HC.out
  have O0 := o0.trans oc
  have e0 := e0.only oc id
  have c4 := c4.only oc id
  have hsz := oc.size
  have z5 := c4.lt
  have HSEQ1 := Lib.hid (HSEQ.out Wc O0 Bs Bb Bl cs cb cl)
  have HE0 := Lib.hid e0
  have HO0 := Lib.hid O0
  have HKK := Lib.hid (⟨cs.lt, cb.lt, cl.lt⟩ : _ ∧ _ ∧ _)
  have HC4 := Lib.hid c4
  clear cs cb cl oc o0 O0 d2 d3 e0 c4 HC HSEQ
  go_wp2_with fail
  refine (wpIn_wide (n := 0)).1 ?_
  refine rangeT (gf := 140) (lb := #[.pointer (some ⟨Bs, 0, none⟩), .pointer (some ⟨Bb, 0, none⟩), .pointer (some ⟨Bl, 0, none⟩)]) rfl (enters_of Try.func140 (by kernel_rfl) rfl)
    HSEQ1.out (fun _ => rfl) (Nat.le_refl _) (KeepB.refl _ _) ?hK
    (LotI Wc (N0 + 1) ec) (fun _ _ _ _ => False) (· = N0 + 1) ?hT ?hI (fun _ _ _ _ _ _ h _ _ => h.elim) ⟨rfl, HC4.out, Only.refl _ _⟩ ?round ?done ?stop
  case hK =>
    rintro i (hi | rfl | rfl | rfl)
    · have := hlt i hi; omega
    · exact HKK.out.1
    · exact HKK.out.2.1
    · exact HKK.out.2.2
  case hT =>
    rintro s T' A ⟨rfl, h4, ho⟩ i rfl
    refine ⟨?_, h4.lt⟩
    rintro (hk | hk | hk | hk)
    · have := hlt _ hk; omega
    all_goals omega
  case hI =>
    rintro s T' A B S ⟨rfl, h4, ho⟩ hAB hS
    exact ⟨rfl, h4.only hAB (fun h => (hS _ h).1 rfl), ho.trans' hAB (fun i h1 h2 => by have := (hS i h2).2; omega)⟩
  case round =>
    intro l1 s T' x A hl1 hszA hrec hTl hi hpre
    have hat := pre_at hpre
    obtain ⟨oi, oc, os, op, oq⟩ := x
    unfold encO ordV
    gi_wp2
    refine ⟨(Only.refl _ A).alloc _, fun A1 hi1 o1 hr1 => ?_⟩
    have hlA : l1 < A.heap.size := by obtain ⟨r, hr⟩ := hrec; exact (Array.getElem?_eq_some_iff.1 hr).1
    have h5 := (Five.new A (.int .i64 oi) (.int .i64 oc) (.int .u8 os) (.int .i64 op) (.int .i64 oq) 54).only o1 (show ¬ A.heap.size = l1 by omega)
    have d2 := h5.c1.cell
    have d5 := h5.c4.cell
    have zd := cell_lt d2
    obtain ⟨rfl, k4, ho⟩ := hi1
    have q3 := (HE0.out.only ho (by omega)).cell
    have z3 := cell_lt q3
    have q4 := k4.cell
    have z4 := cell_lt q4
    have f4 := k4.free
    have hb1 := HBD.out s ((List.prefix_append _ _).trans hpre)
    have hb2 := HOK.out _ (List.mem_of_getElem? hat)
    simp only at hb2
    obtain ⟨lt, hlo⟩ : ∃ lt, lt = lotsO ec s := ⟨_, rfl⟩
    rw [← hlo] at k4 q4 hb1
    have HLO := Lib.hid hlo
    have HHO := Lib.hid ho
    by_cases hc : oc = ec
    · have t1 : (oc != ec) = false := by simpa using hc
      have HF := Lib.hid k4
      have HEQ := Lib.hid hc
      clear hi h5 o1 hr1 hrec hpre k4 ho hc hlo hat
      gi_wp2
      refine ⟨_, ⟨Only.refl _ _, fun i hi => .inl hi⟩, ⟨rfl, ?_, HHO.out⟩⟩
      rw [lotsO_snoc, if_pos HEQ.out, ← HLO.out]; exact HF.out
    · have t1 : (oc != ec) = true := by simpa using hc
      have w2 : IntKind.i64.wrap (lt + oq) = lt + oq := by rw [IntKind.wrap_i64]; omega
      have K4 := k4.set (.int .i64 (lt + oq))
      have KO := (Only.refl (· = N0 + 1) A1).setCell (p := ⟨N0 + 1, 0, none⟩) (.inl rfl) (.int .i64 (lt + oq))
      have HF := Lib.hid (⟨K4, KO⟩ : _ ∧ _)
      have HEQ := Lib.hid hc
      clear hi h5 o1 hr1 hrec hpre k4 ho hc hlo hat K4 KO
      gi_wp2
      obtain ⟨K4, KO⟩ := HF.out
      refine ⟨_, ⟨KO, fun i hi => .inl hi⟩, ⟨rfl, ?_, HHO.out.trans KO⟩⟩
      rw [lotsO_snoc, if_neg HEQ.out, ← HLO.out]; exact K4
  case stop => exact fun _ _ _ _ _ _ _ h => h.elim
  case done =>
  intro D1 T' B1 hD hi hTD hdd
  obtain ⟨rfl, k4, ho⟩ := hi
  have OB := HO0.out.trans' ho (fun i h1 h2 => by have := HN0.out; omega)
  rw [← HM.out] at k4
  have q4 := k4.cell
  have f4 := k4.free
  have z1 := cell_lt q4
  have K4 := k4.set (.int .i64 m)
  have HF := Lib.hid (⟨K4, OB, hdd, hD⟩ : _ ∧ _ ∧ _ ∧ _)
  clear K4 OB k4 ho hdd hD HSEQ1 HE0 HO0 HKK HC4 HBD HOK hTD
  go_wp2_with fail
  obtain ⟨K4, OB, hdd, hD⟩ := HF.out
  have hl1 : D1 < B1.heap.size := (Array.getElem?_eq_some_iff.1 hdd).1
  have oS : Only (· = N0 + 1) B1 (B1.setCell ⟨N0 + 1, 0, none⟩ (.int .i64 m)) := (Only.refl (· = N0 + 1) B1).setCell (.inl rfl) _
  refine leaves_marks [D1] _ (by simp) (fun E hE => ?_) (fun w' ho' => ?_)
  · simp only [List.mem_cons, List.mem_nil_iff, or_false] at hE
    subst hE
    exact (oS.block _ hl1 (by omega)).trans hdd
  · have g4 := (K4.only ho' (fun hD => by simp only [List.mem_cons, List.mem_nil_iff, or_false] at hD; omega)).cell
    refine ⟨.int .i64 m, by simp [results, Try.results146, go_sem, g4], rfl, ?_⟩
    refine (OB.trans' oS (fun i h1 h2 => ?_)).trans' ho' (fun i h1 h2 => ?_)
    · have := HN0.out; omega
    · simp only [List.mem_cons, List.mem_nil_iff, or_false] at h2
      have := HN0.out; omega
end Go.Proofs.Ytilngakgofjmpaa

/- Plan: is there room for what rests (the code's fits). Conditions: a book as its New lays it; the entry has a side. -/
namespace Go.Proofs.Ytilngakgofjmpaa
set_option linter.unusedVariables false
set_option linter.unusedSimpArgs false
open Go.RowKit Go.Shelf
open Od (OrdR)

theorem LvlAt.only0 {w w' : World} {va : Option Addr} {l : List LvR} (h : LvlAt w va l) (o : Only (fun _ => False) w w') : LvlAt w' va l := h.only o (fun _ _ => id)
theorem depS_all {most room : Nat} {l : Bool → List OrdR} (g : Good most room l) {s : Int} (hs : sidedB s = true) : depS l s 128 = depthL (l (qOf s)) := by
  unfold depS
  rw [if_pos hs]
  have h1 := g.dep (qOf s)
  have h2 := g.small.2
  exact List.take_of_length_le (by show _ ≤ 128; omega)

set_option maxRecDepth 100000 in
set_option maxHeartbeats 8000000 in
theorem k_fitsP {w : World} {b most room : Nat} {T : Nat → Prop} {l : Bool → List OrdR} (h : Bk w b T most room l) (e : EnR) (hs : sidedB e.s = true) (gone : Nat) (out : OrdR) :
    Calls Try.prog 147 #[.pointer (some ⟨b, 0, none⟩), enV e, .int .i64 (gone : Nat), ordV out] w fun en w' => en = .returned (.int .i64 (fitC most room l e.s e.p out gone)) ∧ Only (fun _ => False) w w' := by
  obtain ⟨ec, ek, es, ep, eq⟩ := e
  obtain ⟨oi, oc, os, op, oq⟩ := out
  unfold enV ordV
  simp only at hs ⊢
  have hg := h.good
  have HF := Lib.hid fun W (o : Only (fun _ => False) w W) => b_fits (h.only o (fun _ _ => id)) es ep
  have HP := Lib.hid fun W (o : Only (fun _ => False) w W) => b_prices (h.only o (fun _ _ => id)) es
  have HD := Lib.hid fun W (o : Only (fun _ => False) w W) => b_depth (h.only o (fun _ _ => id)) es 128 rfl
  rw [depS_all hg hs] at HD
  have hpr : 0 ≤ priceS most l es ∧ priceS most l es ≤ 128 := by
    unfold priceS
    rw [if_pos hs]
    have := hg.small.2
    omega
  have hdl : (depthL (l (qOf es))).length ≤ 128 := by
    have h1 := hg.dep (qOf es)
    have h2 := hg.small.2
    omega
  obtain ⟨gi, hgi⟩ : ∃ gi : Int, gi = (gone : Nat) := ⟨_, rfl⟩
  rw [← hgi]
  obtain ⟨R, hR⟩ : ∃ R, fitC most room l es ep ⟨oi, oc, os, op, oq⟩ gone = R := ⟨_, rfl⟩
  rw [hR]
  have o0 : Only (fun _ => False) w ((w.alloc (.cells #[.int .i64 ec, .int .u8 ek, .int .u8 es, .int .i64 ep, .int .i64 eq] 111)).alloc (.cells #[.int .i64 oi, .int .i64 oc, .int .u8 os, .int .i64 op, .int .i64 oq] 54)) := ((Only.refl _ w).alloc _).alloc _
  have hE : ∀ (o : Nat) (v : Value), (#[.int .i64 ec, .int .u8 ek, .int .u8 es, .int .i64 ep, .int .i64 eq] : Array Value)[o]? = some v → Cell ((w.alloc (.cells #[.int .i64 ec, .int .u8 ek, .int .u8 es, .int .i64 ep, .int .i64 eq] 111)).alloc (.cells #[.int .i64 oi, .int .i64 oc, .int .u8 os, .int .i64 op, .int .i64 oq] 54)) w.heap.size o v := fun o v hv => (Cell.new hv).alloc _
  have hO : ∀ (o : Nat) (v : Value), (#[.int .i64 oi, .int .i64 oc, .int .u8 os, .int .i64 op, .int .i64 oq] : Array Value)[o]? = some v → Cell ((w.alloc (.cells #[.int .i64 ec, .int .u8 ek, .int .u8 es, .int .i64 ep, .int .i64 eq] 111)).alloc (.cells #[.int .i64 oi, .int .i64 oc, .int .u8 os, .int .i64 op, .int .i64 oq] 54)) (w.heap.size + 1) o v := fun o v hv => by
    have := Cell.new (w := (w.alloc (.cells #[.int .i64 ec, .int .u8 ek, .int .u8 es, .int .i64 ep, .int .i64 eq] 111))) (t := 54) hv
    rwa [World.size_alloc] at this
  have HO0 := Lib.hid o0
  have e2 := hE 2 _ rfl
  have e3 := hE 3 _ rfl
  have q0 := hO 0 _ rfl
  have q3 := hO 3 _ rfl
  have HC := Lib.hid (⟨e2, e3, q0, q3⟩ : _ ∧ _ ∧ _ ∧ _)
  by_cases hA : oi = 0 ∧ gone = 0
  · have hv : fitS most room l es ep = R := by rw [← hR]; unfold fitC; rw [if_pos hA]
    rw [hv] at HF
    obtain ⟨rfl, rfl⟩ := hA
    have t2 : (gi == 0) = true := by rw [hgi]; rfl
    clear HP HD hpr hdl hgi hR hv hg h o0 hE hO e2 e3 q0 q3 HC hs
    go_enter Try.func147, Try.ntmps147
    go_wp2_with fail
    refine (HF.out _ HO0.out).mono ?_
    rintro e w1 ⟨rfl, o1⟩
    go_wp2_with fail
    go_returns
    exact ⟨rfl, HO0.out.trans o1⟩
  · have hR : roomF most [] ⟨oi, oc, os, op, oq⟩ ep (depthL (l (qOf es))) (priceS most l es) = R := by rw [← hR]; unfold fitC; rw [if_neg hA]
    obtain ⟨D, hDD⟩ : ∃ D, D = depthL (l (qOf es)) := ⟨_, rfl⟩
    rw [← hDD] at hR HD hdl
    obtain ⟨pr, hpp⟩ : ∃ pr, pr = priceS most l es := ⟨_, rfl⟩
    rw [← hpp] at hR HP hpr
    have HR := Lib.hid hR
    have HEZ := Lib.hid hgi
    have HAZ := Lib.hid hA
    clear hg h hA hR hDD hpp hE hO hgi hs HF o0 e2 e3 q0 q3
    by_cases hz : oi = 0
    · have t1 : (oi == 0) = true := by simpa using hz
      have t2 : (gi == 0) = false := by
        have h1 := HEZ.out
        have h2 := HAZ.out
        simp
        omega
      have u1 : (oi != 0) = false := by simpa using hz
      have HZ := Lib.hid hz
      clear hz HEZ HAZ
      go_enter Try.func147, Try.ntmps147
      go_wp2_with fail
      refine (HP.out _ HO0.out).mono ?_
      rintro e w1 ⟨rfl, o1⟩
      have O1 := HO0.out.trans o1
      obtain ⟨k2, k3, k4, k5⟩ := HC.out
      have k2 := k2.only o1 id
      have k3 := k3.only o1 id
      have k4 := k4.only o1 id
      have k5 := k5.only o1 id
      have d2 := k2.cell
      have z1 := cell_lt d2
      have HC1 := Lib.hid (⟨O1, k3, k4, k5⟩ : _ ∧ _ ∧ _ ∧ _)
      clear o1 O1 k2 k3 k4 k5 HC
      go_wp2_with fail
      refine (HD.out _ HC1.out.1).mono ?_
      intro e w2 hp
      obtain ⟨v, rfl, hv, o2⟩ := hp
      obtain ⟨va, cap, rfl, hcap, hat⟩ := LvlAt.of_own hv
      obtain ⟨O1, k3, k4, k5⟩ := HC1.out
      have O2 := O1.trans o2
      have k3 := k3.only o2 id
      have k4 := k4.only o2 id
      have k5 := k5.only o2 id
      obtain ⟨n, hn⟩ : ∃ n, n = D.length := ⟨_, rfl⟩
      rw [← hn] at hdl
      rw [← hn]
      have HN := Lib.hid hn
      have HAT := Lib.hid hat
      have HO2 := Lib.hid O2
      have HC2 := Lib.hid (⟨k3, k4, k5⟩ : _ ∧ _ ∧ _)
      clear hv hat O1 O2 o2 k3 k4 k5 HC1 d2 z1 hn
      go_wp2_with fail
      go_loopw [9, 35] (fun s9 s35 wr => ∃ (k : Nat) (rm : Int), k ≤ n ∧ s35 = .int .i64 k ∧ s9 = .int .i64 rm ∧ 0 ≤ rm ∧ rm ≤ 128 + k ∧ roomF most [] ⟨oi, oc, os, op, oq⟩ ep (D.drop k) rm = R ∧ Only (fun _ => False) w2 wr) (fun _ s35 _ => n - (intOf s35).toNat)
      case atStart => exact ⟨0, pr, Nat.zero_le _, rfl, rfl, hpr.1, by omega, HR.out, Only.refl _ _⟩
      case round =>
        obtain ⟨k, rm, hk, rfl, rfl, hr0, hr1, hfl, ho⟩ := hrel
        have HO := Lib.hid ho
        by_cases hlt : k < n
        · have t3 : decide (k < n) = true := by simpa using hlt
          have i1 : (0 : Int) ≤ (k : Int) ∧ (k : Int) < (n : Int) := by omega
          have ww1 : IntKind.i64.wrap ((k : Int) + 1) = (k : Int) + 1 := by rw [IntKind.wrap_i64]; omega
          have ww2 : IntKind.i64.wrap (rm + 1) = rm + 1 := by rw [IntKind.wrap_i64]; omega
          obtain ⟨x, hx⟩ : ∃ x, D[k]? = some x := ⟨_, List.getElem?_eq_getElem (by rw [← HN.out]; exact hlt)⟩
          have hdr : D.drop k = x :: D.drop (k + 1) := by
            obtain ⟨hkl, hxe⟩ := List.getElem?_eq_some_iff.1 hx
            rw [List.drop_eq_getElem_cons hkl, hxe]
          rw [hdr] at hfl
          obtain ⟨g, rfl, hgl, c0, c1, c2⟩ := (HAT.out.only0 ho) k x hx
          obtain ⟨xp, xq, xn⟩ := x
          simp only at c0 c1 c2
          obtain ⟨k3, k4, k5⟩ := HC2.out
          have d3 := (k3.only ho id).cell
          have d4 := (k4.only ho id).cell
          have d5 := (k5.only ho id).cell
          have z3 := cell_lt d3
          have z4 := cell_lt d4
          unfold roomF at hfl
          simp only at hfl
          have HFL := Lib.hid hfl
          clear ho hx hdr hfl k3 k4 k5
          by_cases b3 : xp = ep
          · have s3 : (xp == ep) = true := by simpa using b3
            have hv := HFL.out
            rw [if_neg (fun h => h.1 HZ.out), if_pos b3] at hv
            subst hv
            clear hr0 hr1 hlt b3
            go_wp2_with fail
            go_returns
            exact ⟨rfl, (HO2.out.trans HO.out).alloc _⟩
          · have s3 : (xp == ep) = false := by simpa using b3
            have hv := HFL.out
            rw [if_neg (fun h => h.1 HZ.out), if_neg b3] at hv
            have HV := Lib.hid hv
            clear hv b3
            go_wp2_with fail
            go_roundw
            case rel => exact ⟨k + 1, rm, by omega, by go_num, rfl, hr0, by omega, HV.out, HO.out.alloc _⟩
            case measure => simp [intOf]; omega
        · have t3 : decide (k < n) = false := by simpa using hlt
          obtain rfl : k = n := by omega
          rw [List.drop_of_length_le (by rw [← HN.out]; exact Nat.le_refl _)] at hfl
          unfold roomF at hfl
          by_cases hr : rm = 0
          · have t4 : (rm == 0) = true := by simpa using hr
            rw [if_pos hr] at hfl
            subst hfl
            clear hr hr0 hr1 ho hlt
            go_wp2_with fail
            go_returns
            exact ⟨rfl, HO2.out.trans HO.out⟩
          · have t4 : (rm == 0) = false := by simpa using hr
            rw [if_neg hr] at hfl
            subst hfl
            clear hr hr0 hr1 ho hlt
            go_wp2_with fail
            go_returns
            exact ⟨rfl, HO2.out.trans HO.out⟩
    · have t1 : (oi == 0) = false := by simpa using hz
      have u1 : (oi != 0) = true := by simpa using hz
      have HZ := Lib.hid hz
      clear hz HEZ HAZ
      go_enter Try.func147, Try.ntmps147
      go_wp2_with fail
      refine (HP.out _ HO0.out).mono ?_
      rintro e w1 ⟨rfl, o1⟩
      have O1 := HO0.out.trans o1
      obtain ⟨k2, k3, k4, k5⟩ := HC.out
      have k2 := k2.only o1 id
      have k3 := k3.only o1 id
      have k4 := k4.only o1 id
      have k5 := k5.only o1 id
      have d2 := k2.cell
      have z1 := cell_lt d2
      have HC1 := Lib.hid (⟨O1, k3, k4, k5⟩ : _ ∧ _ ∧ _ ∧ _)
      clear o1 O1 k2 k3 k4 k5 HC
      go_wp2_with fail
      refine (HD.out _ HC1.out.1).mono ?_
      intro e w2 hp
      obtain ⟨v, rfl, hv, o2⟩ := hp
      obtain ⟨va, cap, rfl, hcap, hat⟩ := LvlAt.of_own hv
      obtain ⟨O1, k3, k4, k5⟩ := HC1.out
      have O2 := O1.trans o2
      have k3 := k3.only o2 id
      have k4 := k4.only o2 id
      have k5 := k5.only o2 id
      obtain ⟨n, hn⟩ : ∃ n, n = D.length := ⟨_, rfl⟩
      rw [← hn] at hdl
      rw [← hn]
      have HN := Lib.hid hn
      have HAT := Lib.hid hat
      have HO2 := Lib.hid O2
      have HC2 := Lib.hid (⟨k3, k4, k5⟩ : _ ∧ _ ∧ _)
      clear hv hat O1 O2 o2 k3 k4 k5 HC1 d2 z1 hn
      go_wp2_with fail
      go_loopw [9, 35] (fun s9 s35 wr => ∃ (k : Nat) (rm : Int), k ≤ n ∧ s35 = .int .i64 k ∧ s9 = .int .i64 rm ∧ 0 ≤ rm ∧ rm ≤ 128 + k ∧ roomF most [] ⟨oi, oc, os, op, oq⟩ ep (D.drop k) rm = R ∧ Only (fun _ => False) w2 wr) (fun _ s35 _ => n - (intOf s35).toNat)
      case atStart => exact ⟨0, pr, Nat.zero_le _, rfl, rfl, hpr.1, by omega, HR.out, Only.refl _ _⟩
      case round =>
        obtain ⟨k, rm, hk, rfl, rfl, hr0, hr1, hfl, ho⟩ := hrel
        have HO := Lib.hid ho
        by_cases hlt : k < n
        · have t3 : decide (k < n) = true := by simpa using hlt
          have i1 : (0 : Int) ≤ (k : Int) ∧ (k : Int) < (n : Int) := by omega
          have ww1 : IntKind.i64.wrap ((k : Int) + 1) = (k : Int) + 1 := by rw [IntKind.wrap_i64]; omega
          have ww2 : IntKind.i64.wrap (rm + 1) = rm + 1 := by rw [IntKind.wrap_i64]; omega
          obtain ⟨x, hx⟩ : ∃ x, D[k]? = some x := ⟨_, List.getElem?_eq_getElem (by rw [← HN.out]; exact hlt)⟩
          have hdr : D.drop k = x :: D.drop (k + 1) := by
            obtain ⟨hkl, hxe⟩ := List.getElem?_eq_some_iff.1 hx
            rw [List.drop_eq_getElem_cons hkl, hxe]
          rw [hdr] at hfl
          obtain ⟨g, rfl, hgl, c0, c1, c2⟩ := (HAT.out.only0 ho) k x hx
          obtain ⟨xp, xq, xn⟩ := x
          simp only at c0 c1 c2
          obtain ⟨k3, k4, k5⟩ := HC2.out
          have d3 := (k3.only ho id).cell
          have d4 := (k4.only ho id).cell
          have d5 := (k5.only ho id).cell
          have z3 := cell_lt d3
          have z4 := cell_lt d4
          unfold roomF at hfl
          simp only at hfl
          have HFL := Lib.hid hfl
          clear ho hx hdr hfl k3 k4 k5
          by_cases b1 : xp = op
          · have s1 : (xp == op) = true := by simpa using b1
            by_cases b2 : xn = 1
            · have s2 : (xn == 1) = true := by simpa using b2
              have hv := HFL.out
              rw [if_pos ⟨HZ.out, b1, b2⟩] at hv
              have HV := Lib.hid hv
              clear hv b1 b2
              go_wp2_with fail
              go_roundw
              case rel => exact ⟨k + 1, rm + 1, by omega, by go_num, by go_num, by omega, by omega, HV.out, HO.out.alloc _⟩
              case measure => simp [intOf]; omega
            · have s2 : (xn == 1) = false := by simpa using b2
              by_cases b3 : xp = ep
              · have s3 : (xp == ep) = true := by simpa using b3
                have hv := HFL.out
                rw [if_neg (fun h => b2 h.2.2), if_pos b3] at hv
                subst hv
                clear hr0 hr1 hlt b1 b2 b3
                go_wp2_with fail
                go_returns
                exact ⟨rfl, (HO2.out.trans HO.out).alloc _⟩
              · have s3 : (xp == ep) = false := by simpa using b3
                have hv := HFL.out
                rw [if_neg (fun h => b2 h.2.2), if_neg b3] at hv
                have HV := Lib.hid hv
                clear hv b1 b2 b3
                go_wp2_with fail
                go_roundw
                case rel => exact ⟨k + 1, rm, by omega, by go_num, rfl, hr0, by omega, HV.out, HO.out.alloc _⟩
                case measure => simp [intOf]; omega
          · have s1 : (xp == op) = false := by simpa using b1
            by_cases b3 : xp = ep
            · have s3 : (xp == ep) = true := by simpa using b3
              have hv := HFL.out
              rw [if_neg (fun h => b1 h.2.1), if_pos b3] at hv
              subst hv
              clear hr0 hr1 hlt b1 b3
              go_wp2_with fail
              go_returns
              exact ⟨rfl, (HO2.out.trans HO.out).alloc _⟩
            · have s3 : (xp == ep) = false := by simpa using b3
              have hv := HFL.out
              rw [if_neg (fun h => b1 h.2.1), if_neg b3] at hv
              have HV := Lib.hid hv
              clear hv b1 b3
              go_wp2_with fail
              go_roundw
              case rel => exact ⟨k + 1, rm, by omega, by go_num, rfl, hr0, by omega, HV.out, HO.out.alloc _⟩
              case measure => simp [intOf]; omega
        · have t3 : decide (k < n) = false := by simpa using hlt
          obtain rfl : k = n := by omega
          rw [List.drop_of_length_le (by rw [← HN.out]; exact Nat.le_refl _)] at hfl
          unfold roomF at hfl
          by_cases hr : rm = 0
          · have t4 : (rm == 0) = true := by simpa using hr
            rw [if_pos hr] at hfl
            subst hfl
            clear hr hr0 hr1 ho hlt
            go_wp2_with fail
            go_returns
            exact ⟨rfl, HO2.out.trans HO.out⟩
          · have t4 : (rm == 0) = false := by simpa using hr
            rw [if_neg hr] at hfl
            subst hfl
            clear hr hr0 hr1 ho hlt
            go_wp2_with fail
            go_returns
            exact ⟨rfl, HO2.out.trans HO.out⟩
end Go.Proofs.Ytilngakgofjmpaa

/- Plan: while hits are gathered: the state of plan.of's loop; an append of a hit within a round. No condition. -/
namespace Go.Proofs.Ytilngakgofjmpaa
set_option linter.unusedVariables false
set_option linter.unusedSimpArgs false
open Go.RowKit Go.Shelf
open Od (OrdR)
attribute [local go_sem] Oper.semAt_some

theorem Try.infoHitN : (Try.prog.info? 117).map (fun i => (i.zero, i.size, i.bytes)) = some (some (.agg #[.int .i64 0, .int .i64 0, .int .i64 0, .bool false]), 4, 32) := by kernel_rfl
theorem cell_four_new (w : World) (x0 x1 x2 x3 : Value) (t : TypeId) : ∀ j u, [x0, x1, x2, x3][j]? = some u → (w.alloc (.cells #[x0, x1, x2, x3] t)).cell? ((⟨w.heap.size, 0, none⟩ : Addr).add j) = some u := by
  intro j u h
  rw [show (⟨w.heap.size, 0, none⟩ : Addr).add j = ⟨w.heap.size, j, none⟩ by unfold Addr.add; split <;> simp_all]
  exact (Cell.new (cs := #[x0, x1, x2, x3]) (by simpa using h)).cell
/-- An append of a hit onto a row of one's own, told ahead. -/
theorem app_hit {w : World} {base n : Nat} {v : Value} {xs : List Value} (hown : w.ownsRow base 117 4 v n xs) (x0 x1 x2 x3 : Value) (h1 : ∀ u ∈ [x0, x1, x2, x3], u.oneCell' = true) (hle : n ≤ 1000000) (hbase : base ≤ w.heap.size) :
    ∃ v' W', (Builtin.append_ #[102, 102] 102 #[v, .slice (some ⟨w.heap.size, 0, none⟩) 1 1]).run Try.prog (w.alloc (.cells #[x0, x1, x2, x3] 117)) = .ok v' W' ∧ W'.ownsRow base 117 4 v' (n + 1) (xs ++ [x0, x1, x2, x3]) ∧ Only (fun i => v.ownBlock = some i) w W' ∧ (v'.ownBlock = v.ownBlock ∨ v'.ownBlock = some (w.heap.size + 1)) := by
  obtain ⟨i3, hi3, hz3, hs3, hb3⟩ := info_parts Try.infoHitN
  have o1 : Only (fun _ => False) w (w.alloc (.cells #[x0, x1, x2, x3] 117)) := (Only.refl _ _).alloc _
  obtain ⟨v', W', hr, h2, h3, h5⟩ := append_own (P := Try.prog) (ty := 102) Try.underlying102 hi3 hz3 hs3 hb3 rfl (by decide) (ownsRow_apart hown o1 (fun _ _ => id)) ⟨w.heap.size, 0, none⟩ 1 1 [x0, x1, x2, x3] rfl (cell_four_new w _ _ _ _ _) h1 (by unfold maxLen; omega) (by omega) (by rw [World.size_alloc]; omega)
  rw [World.size_alloc] at h5
  exact ⟨v', W', hr, h2, (Only.of_none o1).trans' (Only.of_grown h3 (fun r e => e) : Only (fun i => v.ownBlock = some i) _ _) (fun i _ h => h), h5⟩

/-- The blocks of plan.of's loop: the plan's box P, what is left L, how many have gone G, and the row. -/
def TH (P L G : Nat) (v : Value) (i : Nat) : Prop := i = P ∨ i = L ∨ i = G ∨ v.ownBlock = some i
/-- Met so far. -/
structure OfI (base : Nat) (Wc : World) (P L G : Nat) (c q : Int) (s : List OrdR) (T : Nat → Prop) (A : World) : Prop where
  val : ∃ v, T = TH P L G v ∧ Cell A P 0 v ∧ A.ownsRow base 117 4 v (meet c q s).length (hitC (meet c q s))
  c1 : Cell A P 1 (.int .i64 (q - leftM c q s))
  c2 : Cell A P 2 (.int .i64 0)
  c3 : Cell A P 3 (.int .i64 0)
  cl : Cell A L 0 (.int .i64 (leftM c q s))
  cg : Cell A G 0 (.int .i64 (goneM c q s : Nat))
  only : Only (fun i => i = P ∨ i = L ∨ i = G) Wc A
/-- Left: nothing is left. -/
structure OfX (xs : List OrdR) (base : Nat) (Wc : World) (P L G id : Nat) (c q : Int) (k : Code) (s : List OrdR) (T : Nat → Prop) (A : World) : Prop where
  k : k = .exit id
  i : OfI base Wc P L G c q xs T A
theorem OfI.start {W : World} {P L G : Nat} {c q : Int} {v : Value} (hv : v = .slice none 0 0) (h0 : Cell W P 0 v) (h1 : Cell W P 1 (.int .i64 0)) (h2 : Cell W P 2 (.int .i64 0)) (h3 : Cell W P 3 (.int .i64 0)) (hl : Cell W L 0 (.int .i64 q)) (hg : Cell W G 0 (.int .i64 0)) : OfI W.heap.size W P L G c q [] (TH P L G v) W := by
  subst hv
  refine ⟨⟨_, rfl, h0, World.ownsRow_nil _ _ _ _⟩, ?_, h2, h3, hl, hg, Only.refl _ _⟩
  show Cell W P 1 (.int .i64 (q - q))
  rw [Int.sub_self]; exact h1
theorem OfI.keep {base : Nat} {Wc A B : World} {P L G : Nat} {c q : Int} {s : List OrdR} {T S : Nat → Prop} (h : OfI base Wc P L G c q s T A) (o : Only S A B) (hS : ∀ i, S i → ¬ T i ∧ Wc.heap.size ≤ i) : OfI base Wc P L G c q s T B := by
  obtain ⟨⟨v, rfl, hc, hw⟩, h1, h2, h3, hl, hg, ho⟩ := h
  have nP : ¬ S P := fun h => (hS _ h).1 (.inl rfl)
  have nL : ¬ S L := fun h => (hS _ h).1 (.inr (.inl rfl))
  have nG : ¬ S G := fun h => (hS _ h).1 (.inr (.inr (.inl rfl)))
  exact ⟨⟨v, rfl, hc.only o nP, ownsRow_apart hw o (fun i hi h => (hS _ h).1 (.inr (.inr (.inr hi))))⟩, h1.only o nP, h2.only o nP, h3.only o nP, hl.only o nL, hg.only o nG, ho.trans' o (fun i h1 h2 => by have := (hS i h2).2; omega)⟩
theorem OfI.done {base : Nat} {Wc A : World} {P L G : Nat} {c q : Int} {s xs : List OrdR} {T : Nat → Prop} (h : OfI base Wc P L G c q s T A) (hp : s <+: xs) (h0 : leftM c q s = 0) : OfI base Wc P L G c q xs T A := by
  obtain ⟨r, rfl⟩ := hp
  obtain ⟨e1, e2, e3⟩ := meet_done h0 r
  obtain ⟨hv, h1, h2, h3, hl, hg, ho⟩ := h
  rw [h0] at h1 hl
  exact ⟨by rw [e1]; exact hv, by rw [e2]; exact h1, h2, h3, by rw [e2]; exact hl, by rw [e3]; exact hg, ho⟩
theorem OfI.ti {base : Nat} {Wc A : World} {P L G : Nat} {c q : Int} {s : List OrdR} {T : Nat → Prop} (h : OfI base Wc P L G c q s T A) (i : Nat) (hi : T i) : (i = P ∨ i = L ∨ i = G ∨ base ≤ i) ∧ i < A.heap.size := by
  obtain ⟨⟨v, rfl, hc, hw⟩, h1, h2, h3, hl, hg, ho⟩ := h
  rcases hi with rfl | rfl | rfl | hi
  · exact ⟨.inl rfl, hc.lt⟩
  · exact ⟨.inr (.inl rfl), hl.lt⟩
  · exact ⟨.inr (.inr (.inl rfl)), hg.lt⟩
  · have := hw.lt i hi
    exact ⟨.inr (.inr (.inr this.1)), this.2⟩
/-- One met more. -/
theorem meet_snoc {c q : Int} {s : List OrdR} {x : OrdR} (h : leftM c q s ≠ 0) : meet c q (s ++ [x]) = meet c q s ++ [hitOf c (leftM c q s) x] ∧ leftM c q (s ++ [x]) = leftOf c (leftM c q s) x ∧ goneM c q (s ++ [x]) = goneM c q s + if (hitOf c (leftM c q s) x).q = x.q then 1 else 0 := by
  rw [meet_append, leftM_append, goneM_append, meet_one _ _ _ h, leftM_one _ _ _ h, goneM_one _ _ _ h]
  exact ⟨rfl, rfl, rfl⟩
/-- What is asked behind a region that ends normally; of no other end anything is told. -/
def QZ (Q : Exit → Act → World → Prop) (e : Exit) (a : Act) (w : World) : Prop := match e with | .normal => Q .normal a w | _ => False
theorem QZ.wp {P : Program} {c : Code} {Q : Exit → Act → World → Prop} {a : Act} {w : World} (h : c.wp P (QZ Q) a w) : c.wp P Q a w := Code.wp_mono (fun e a w h => by cases e <;> first | exact h | exact h.elim) h
theorem own_ne' {w : World} {base : Nat} {e : TypeId} {size : Nat} {v : Value} {n : Nat} {xs : List Value} {D : Nat} {m : Option (List Deferred)} (h : w.ownsRow base e size v n xs) (hd : w.heap[D]? = some (.deferred m)) : v.ownBlock ≠ some D := fun hv => by
  rcases h.2 with ⟨h0, _⟩ | ⟨g, cap, cur, rfl, _, hg, _⟩
  · rw [h0] at hv; cases hv
  · injection hv with hv
    subst hv
    rw [hg] at hd
    cases hd
/-- What plan.of has laid: the entry's box, the order's that is out. -/
structure OfB (w : World) (N0 : Nat) (ec ek es ep eq ui uc us up uq : Int) (A : World) : Prop where
  n : w.heap.size = N0
  only : Only (fun _ => False) w A
  e0 : Cell A N0 0 (.int .i64 ec)
  e1 : Cell A N0 1 (.int .u8 ek)
  e2 : Cell A N0 2 (.int .u8 es)
  e3 : Cell A N0 3 (.int .i64 ep)
  e4 : Cell A N0 4 (.int .i64 eq)
  u0 : Cell A (N0 + 1) 0 (.int .i64 ui)
  u1 : Cell A (N0 + 1) 1 (.int .i64 uc)
  u2 : Cell A (N0 + 1) 2 (.int .u8 us)
  u3 : Cell A (N0 + 1) 3 (.int .i64 up)
  u4 : Cell A (N0 + 1) 4 (.int .i64 uq)
theorem OfB.keep {w A B : World} {N0 : Nat} {ec ek es ep eq ui uc us up uq : Int} {S : Nat → Prop} (h : OfB w N0 ec ek es ep eq ui uc us up uq A) (o : Only S A B) (hS : ∀ i, S i → N0 + 2 ≤ i) : OfB w N0 ec ek es ep eq ui uc us up uq B := by
  have n0 : ¬ S N0 := fun h => by have := hS _ h; omega
  have n1 : ¬ S (N0 + 1) := fun h => by have := hS _ h; omega
  exact ⟨h.n, h.only.trans' o (fun i h1 h2 => by have := hS i h2; rw [h.n] at h1; omega), h.e0.only o n0, h.e1.only o n0, h.e2.only o n0, h.e3.only o n0, h.e4.only o n0, h.u0.only o n1, h.u1.only o n1, h.u2.only o n1, h.u3.only o n1, h.u4.only o n1⟩
/-- The plan's box and the error's, as they were laid. -/
structure OfP (N0 : Nat) (A : World) : Prop where
  p0 : Cell A (N0 + 1 + 1) 0 (.slice none 0 0)
  p1 : Cell A (N0 + 1 + 1) 1 (.int .i64 0)
  p2 : Cell A (N0 + 1 + 1) 2 (.int .i64 0)
  p3 : Cell A (N0 + 1 + 1) 3 (.int .i64 0)
  r : Cell A (N0 + 1 + 1 + 1) 0 (.int .i64 0)
theorem OfP.keep {N0 : Nat} {A B : World} {S : Nat → Prop} (h : OfP N0 A) (o : Only S A B) (h1 : ¬ S (N0 + 1 + 1)) (h2 : ¬ S (N0 + 1 + 1 + 1)) : OfP N0 B :=
  ⟨h.p0.only o h1, h.p1.only o h1, h.p2.only o h1, h.p3.only o h1, h.r.only o h2⟩
/-- Within a round: the hit lies there, and what the loop keeps. -/
structure RdA (A1 : World) (P L G H : Nat) (v : Value) (tr oi op hq : Int) (b : Bool) (lf : Int) (gn : Nat) (wx : World) : Prop where
  h0 : Cell wx H 0 (.int .i64 oi)
  h1 : Cell wx H 1 (.int .i64 op)
  h2 : Cell wx H 2 (.int .i64 hq)
  h3 : Cell wx H 3 (.bool b)
  p0 : Cell wx P 0 v
  p1 : Cell wx P 1 (.int .i64 tr)
  p2 : Cell wx P 2 (.int .i64 0)
  p3 : Cell wx P 3 (.int .i64 0)
  l : Cell wx L 0 (.int .i64 lf)
  g : Cell wx G 0 (.int .i64 (gn : Nat))
  o : Only (fun i => i = P ∨ i = L ∨ i = G) A1 wx
theorem RdA.store {A1 : World} {P L G H : Nat} {v : Value} {tr oi op q0 : Int} {b : Bool} {lf : Int} {gn : Nat} {wx : World} (h : RdA A1 P L G H v tr oi op q0 b lf gn wx) (n1 : P ≠ H) (n2 : L ≠ H) (n3 : G ≠ H) (n4 : L ≠ P) (n5 : G ≠ P) (n6 : L ≠ G) (hH : A1.heap.size ≤ H) (hq lf' tr' : Int) :
    RdA A1 P L G H v tr' oi op hq b lf' gn (((wx.setCell ⟨H, 2, none⟩ (.int .i64 hq)).setCell ⟨L, 0, none⟩ (.int .i64 lf')).setCell ⟨P, 1, none⟩ (.int .i64 tr')) := by
  have oS : Only (fun i => i = P ∨ i = L ∨ i = G) A1 (((wx.setCell ⟨H, 2, none⟩ (.int .i64 hq)).setCell ⟨L, 0, none⟩ (.int .i64 lf')).setCell ⟨P, 1, none⟩ (.int .i64 tr')) :=
    ((h.o.setCell (.inr hH) _).setCell (.inl (.inr (.inl rfl))) _).setCell (.inl (.inl rfl)) _
  refine ⟨?_, ?_, ?_, ?_, ?_, ?_, ?_, ?_, ?_, ?_, oS⟩
  · exact ((h.h0.far (off_ne (by decide)) _).far (blk_ne n2) _).far (blk_ne n1) _
  · exact ((h.h1.far (off_ne (by decide)) _).far (blk_ne n2) _).far (blk_ne n1) _
  · exact ((h.h2.set _).far (blk_ne n2) _).far (blk_ne n1) _
  · exact ((h.h3.far (off_ne (by decide)) _).far (blk_ne n2) _).far (blk_ne n1) _
  · exact ((h.p0.far (blk_ne (fun e => n1 e.symm)) _).far (blk_ne n4) _).far (off_ne (by decide)) _
  · exact ((h.p1.far (blk_ne (fun e => n1 e.symm)) _).far (blk_ne n4) _).set _
  · exact ((h.p2.far (blk_ne (fun e => n1 e.symm)) _).far (blk_ne n4) _).far (off_ne (by decide)) _
  · exact ((h.p3.far (blk_ne (fun e => n1 e.symm)) _).far (blk_ne n4) _).far (off_ne (by decide)) _
  · exact ((h.l.far (blk_ne (fun e => n2 e.symm)) _).set _).far (blk_ne (fun e => n4 e.symm)) _
  · exact ((h.g.far (blk_ne (fun e => n3 e.symm)) _).far (blk_ne n6) _).far (blk_ne (fun e => n5 e.symm)) _
theorem RdA.gone {A1 : World} {P L G H : Nat} {v : Value} {tr oi op hq : Int} {b : Bool} {lf : Int} {gn : Nat} {wx : World} (h : RdA A1 P L G H v tr oi op hq b lf gn wx) (n3 : G ≠ H) (n5 : G ≠ P) (n6 : L ≠ G) (x : Int) (hx : x = ((gn + 1 : Nat) : Int)) :
    RdA A1 P L G H v tr oi op hq b lf (gn + 1) (wx.setCell ⟨G, 0, none⟩ (.int .i64 x)) := by
  subst hx
  have oS : Only (fun i => i = P ∨ i = L ∨ i = G) A1 (wx.setCell ⟨G, 0, none⟩ (.int .i64 ((gn + 1 : Nat) : Int))) := h.o.setCell (.inl (.inr (.inr rfl))) _
  have m1 := fun (o o' : Nat) => blk_ne (o := o) (o' := o') n3
  have m2 := fun (o o' : Nat) => blk_ne (o := o) (o' := o') n5
  exact ⟨h.h0.far (m1 _ _) _, h.h1.far (m1 _ _) _, h.h2.far (m1 _ _) _, h.h3.far (m1 _ _) _, h.p0.far (m2 _ _) _, h.p1.far (m2 _ _) _, h.p2.far (m2 _ _) _, h.p3.far (m2 _ _) _, h.l.far (blk_ne (fun e => n6 e.symm)) _, h.g.set _, oS⟩
/-- A plan and an error are stored. -/
theorem st_plan {A : World} {P R : Nat} (hne : P ≠ R) {x0 x1 x2 x3 xr : Value} (h0 : Cell A P 0 x0) (h1 : Cell A P 1 x1) (h2 : Cell A P 2 x2) (h3 : Cell A P 3 x3) (hr : Cell A R 0 xr) (y0 y1 y2 y3 yr : Value) :
    (Cell (((((A.setCell ⟨P, 0, none⟩ y0).setCell ⟨P, 1, none⟩ y1).setCell ⟨P, 2, none⟩ y2).setCell ⟨P, 3, none⟩ y3).setCell ⟨R, 0, none⟩ yr) P 0 y0 ∧ Cell (((((A.setCell ⟨P, 0, none⟩ y0).setCell ⟨P, 1, none⟩ y1).setCell ⟨P, 2, none⟩ y2).setCell ⟨P, 3, none⟩ y3).setCell ⟨R, 0, none⟩ yr) P 1 y1 ∧
      Cell (((((A.setCell ⟨P, 0, none⟩ y0).setCell ⟨P, 1, none⟩ y1).setCell ⟨P, 2, none⟩ y2).setCell ⟨P, 3, none⟩ y3).setCell ⟨R, 0, none⟩ yr) P 2 y2 ∧ Cell (((((A.setCell ⟨P, 0, none⟩ y0).setCell ⟨P, 1, none⟩ y1).setCell ⟨P, 2, none⟩ y2).setCell ⟨P, 3, none⟩ y3).setCell ⟨R, 0, none⟩ yr) P 3 y3 ∧
      Cell (((((A.setCell ⟨P, 0, none⟩ y0).setCell ⟨P, 1, none⟩ y1).setCell ⟨P, 2, none⟩ y2).setCell ⟨P, 3, none⟩ y3).setCell ⟨R, 0, none⟩ yr) R 0 yr) ∧
      Only (fun i => i = P ∨ i = R) A (((((A.setCell ⟨P, 0, none⟩ y0).setCell ⟨P, 1, none⟩ y1).setCell ⟨P, 2, none⟩ y2).setCell ⟨P, 3, none⟩ y3).setCell ⟨R, 0, none⟩ yr) := by
  have f : ∀ {o o' : Nat}, o ≠ o' → (⟨P, o, none⟩ : Addr) ≠ ⟨P, o', none⟩ := fun h => off_ne h
  have g : ∀ {o : Nat}, (⟨R, 0, none⟩ : Addr) ≠ ⟨P, o, none⟩ := blk_ne (fun e => hne e.symm)
  have g' : ∀ {o : Nat}, (⟨P, o, none⟩ : Addr) ≠ ⟨R, 0, none⟩ := blk_ne hne
  refine ⟨⟨?_, ?_, ?_, ?_, ?_⟩, ?_⟩
  · exact ((((h0.set y0).far (f (by decide)) _).far (f (by decide)) _).far (f (by decide)) _).far g _
  · exact ((((h1.far (f (by decide)) _).set y1).far (f (by decide)) _).far (f (by decide)) _).far g _
  · exact ((((h2.far (f (by decide)) _).far (f (by decide)) _).set y2).far (f (by decide)) _).far g _
  · exact ((((h3.far (f (by decide)) _).far (f (by decide)) _).far (f (by decide)) _).set y3).far g _
  · exact ((((hr.far g' _).far g' _).far g' _).far g' _).set yr
  · exact (((((Only.refl _ A).setCell (.inl (.inl rfl)) _).setCell (.inl (.inl rfl)) _).setCell (.inl (.inl rfl)) _).setCell (.inl (.inl rfl)) _).setCell (.inl (.inr rfl)) _
/-- A Post entry: whether anybody faces it. -/
structure PcI (N0 : Nat) (Wc : World) (s : List OrdR) (T : Nat → Prop) (A : World) : Prop where
  t : T = fun i => i = N0 + 1 + 1 ∨ i = N0 + 1 + 1 + 1
  s : s = []
  p : OfP N0 A
  only : Only (fun i => i = N0 + 1 + 1 ∨ i = N0 + 1 + 1 + 1) Wc A
structure PcX (N0 : Nat) (Wc : World) (k : Code) (s : List OrdR) (T : Nat → Prop) (A : World) : Prop where
  k : k = .ret
  t : T = fun i => i = N0 + 1 + 1 ∨ i = N0 + 1 + 1 + 1
  s : s ≠ []
  p0 : Cell A (N0 + 1 + 1) 0 (.slice none 0 0)
  p1 : Cell A (N0 + 1 + 1) 1 (.int .i64 0)
  p2 : Cell A (N0 + 1 + 1) 2 (.int .i64 0)
  p3 : Cell A (N0 + 1 + 1) 3 (.int .i64 0)
  r : Cell A (N0 + 1 + 1 + 1) 0 (.int .i64 80)
  only : Only (fun i => i = N0 + 1 + 1 ∨ i = N0 + 1 + 1 + 1) Wc A
end Go.Proofs.Ytilngakgofjmpaa
