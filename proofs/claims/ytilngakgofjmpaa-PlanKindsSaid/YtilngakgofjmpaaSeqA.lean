/- Levels' Upto and the orders' All: what these iterators promise. Conditions: a side, an arena as New lays them. -/
import Derived.Test.YtilngakgofjmpaaJ5
import Derived.Test.YtilngakgofjmpaaSeq
namespace Go.Proofs.Ytilngakgofjmpaa
set_option linter.unusedVariables false
set_option linter.unusedSimpArgs false
open Go.RowKit Go.Shelf
open Od (OrdR Lay FreeN Blk4)
attribute [local go_sem] Oper.semAt_some

theorem SideU.keepB {w W : World} {b gu most : Nat} {sg : Int} {hv : Value} {L : List Lvl} {U : Nat → Bool} (h : SideU w b gu most sg hv L U) {S : Nat → Prop} (k : KeepB S w W) (hS : ∀ i, SdB b gu hv i → S i) : SideU W b gu most sg hv L U := by
  have kb := k b (hS b (.inl rfl)); have ku := k gu (hS gu (.inr (.inl rfl)))
  refine ⟨h.c0.blk kb, h.c1.blk kb, h.c2.blk kb, fun n hn => (h.us n hn).blk ku, ⟨h.own.1, ?_⟩, h.sep, h.ne, h.hsg, h.srt, h.nd, h.lt, h.pr, h.len, h.small, lt_of_blk h.gul ku⟩
  rcases h.own.2 with hn | ⟨g, cap, cur, rfl, hb, hgg, rest⟩
  · exact .inl hn
  · exact .inr ⟨g, cap, cur, rfl, hb, (k g (hS g (.inr (.inr rfl)))).trans hgg, rest⟩
/-- What Upto reads. -/
def KU (b gu : Nat) (hv : Value) (Bs Bl : Nat) (i : Nat) : Prop := SdB b gu hv i ∨ i = Bs ∨ i = Bl
theorem KeepB.turn {K : Nat → Prop} {T T' : Nat → Prop} {A B : World} (h : Turn T A B T') (hT : ∀ i, T i → ¬ K i) (hK : ∀ i, K i → i < A.heap.size) : KeepB K A B := fun i hi => h.1.block i (hK i hi) (fun ht => hT i ht hi)

section
variable (l Bs Bl b gu most : Nat) (sg lim : Int) (hv : Value) (L : List Lvl) (J Jx : List Lvl → (Nat → Prop) → World → Prop) (W : World) (T0 : Nat → Prop)

set_option maxRecDepth 100000 in
set_option maxHeartbeats 4000000 in
theorem seq_zero (hlim : lim = 0) (hT : ∀ s T A, J s T A → ∀ i, T i → ¬ KU b gu hv Bs Bl i ∧ i < A.heap.size) (hab : ∀ s T A B, J s T A → Only (fun _ => False) A B → J s T B)
    (hY : ∀ s T x A, J s T A → (s ++ [x]) <+: L → YieldAt Fence.wide 0 Try.prog l (encU x) A fun e B => ∃ T', Turn T A B T' ∧ ((e = .returned (.bool true) ∧ J (s ++ [x]) T' B) ∨ (e = .returned (.bool false) ∧ Jx (s ++ [x]) T' B)))
    (hBs : W.cell? ⟨Bs, 0, none⟩ = some (.pointer (some ⟨b, 0, none⟩))) (hBl : W.cell? ⟨Bl, 0, none⟩ = some (.int .i64 lim)) (h : SideAt W b gu most sg hv L) (h0 : J [] T0 W) :
    CallsIn Fence.wide 1 Try.prog 65 #[.func (.yield l) #[] #[], .pointer (some ⟨Bs, 0, none⟩), .pointer (some ⟨Bl, 0, none⟩)] W fun e W' => (∃ v, e = .returned v) ∧
      ((∃ T, J (L) T W') ∨ (∃ s T, s <+: L ∧ Jx s T W')) := by
  have hln := h.len
  have hsm := h.small
  subst hlim
  obtain ⟨m, hm⟩ : ∃ m, m = L.length := ⟨_, rfl⟩
  have hml : m ≤ L.length := by omega
  have hm0 := hm

  obtain ⟨U, hU⟩ : ∃ U, U = (L) := ⟨_, rfl⟩
  rw [← hU] at hm
  have hsub : U <+: L := by rw [hU]; first | exact List.prefix_refl _ | exact List.take_prefix _ _
  obtain ⟨a, cap, hvv, hcap⟩ := own_slice h.own
  have c1 := h.c1.cell
  rw [hvv] at c1
  obtain ⟨N, hN⟩ : ∃ N, N = L.length := ⟨_, rfl⟩
  obtain rfl : m = N := by rw [hN, hm0]
  rw [← hN] at c1 hml hcap hln hvv

  have zs := cell_lt hBs
  have zl := cell_lt hBl
  have zb := cell_lt c1
  have b1 : (0 : Int) ≤ (m : Int) := by omega
  have b2 : (m : Int) ≤ (cap : Int) := by omega
  simp only [← hU] at hY ⊢
  have hKlt : ∀ i, KU b gu hv Bs Bl i → i < W.heap.size := fun i hi => by
    rcases hi with hi | hi | hi
    · exact h.blk i hi
    · omega
    · omega
  have HY := Lib.hid hY
  have HTT := Lib.hid hT
  have HKL := Lib.hid hKlt
  have HAB := Lib.hid hab
  have HSUB := Lib.hid hsub
  have HM := Lib.hid hm
  have HH := Lib.hid h
  have HVV := Lib.hid hvv
  have HNN := Lib.hid hN
  clear hY hab hsub hm hU h hvv hN hT hKlt
  refine callsIn_of_wp Try.func65 rfl trivial ?_ rfl
  simp only [Try.ntmps65, List.size_toArray, List.length_cons, List.length_nil, Nat.reduceAdd, Nat.reduceSub, Array.replicate_succ, Array.replicate_zero, List.push_toArray, List.append_toArray, List.nil_append, List.cons_append]
  gi_wp2
  have oP := Only.refl (fun _ => False) W

  gi_loopw [33] (fun s wr => ∃ (pre rest : List Lvl) (T : Nat → Prop), U = pre ++ rest ∧ s = .int .i64 (pre.length : Nat) ∧ J pre T wr ∧ KeepB (KU b gu hv Bs Bl) W wr) (fun s _ => m - (intOf s).toNat)
  case atStart => exact ⟨[], U, T0, rfl, rfl, HAB.out _ _ _ _ h0 oP, KeepB.only oP fun i hi => ⟨HKL.out i hi, id⟩⟩
  case round =>
    obtain ⟨pre, rest, T, hs, rfl, hJs, hk⟩ := hrel
    have hml2 : m = pre.length + rest.length := by rw [HM.out, hs, List.length_append]
    cases rest with
    | nil =>
      have e1 : pre.length = m := by rw [hml2]; rfl
      have hUp : U = pre := by rw [hs, List.append_nil]
      subst hUp
      rw [e1]
      have HJS := Lib.hid hJs
      clear e1 hs hml2 hJs hk
      gi_wp2
      go_end0
      exact ⟨⟨_, rfl⟩, .inl ⟨_, HJS.out⟩⟩
    | cons x t =>
      obtain ⟨p, hp⟩ : ∃ p, p = pre.length := ⟨_, rfl⟩
      have hpm2 : p < m := by rw [hml2, hp]; simp
      have hx : L[p]? = some x := by
        obtain ⟨r, hr⟩ := HSUB.out
        rw [← hr, hs, hp]; simp
      obtain ⟨g, cap', e, _, hg, v1, v2⟩ := HH.out.at_ hx
      rw [HVV.out, ← HNN.out] at e
      obtain ⟨rfl, rfl⟩ : a = some ⟨g, 0, none⟩ ∧ cap = cap' := by injection e with e1 e2 e3; exact ⟨e1, e3⟩
      have hgS : KU b gu hv Bs Bl g := .inl (.inr (.inr (by rw [HVV.out]; rfl)))
      have v1 := (v1.blk (hk g hgS)).cell
      have v2 := (v2.blk (hk g hgS)).cell
      have zg := cell_lt v1
      have t2 : decide (p < m) = true := by simpa using hpm2
      have i1 : (0 : Int) ≤ (p : Int) ∧ (p : Int) < (m : Int) := by omega
      have w1 : IntKind.i64.wrap ((p : Int) + 1) = (p : Int) + 1 := by rw [IntKind.wrap_i64]; omega
      have o1 := (Only.refl (fun _ => False) wr).alloc (.cells #[.int .i64 x.1, .int .i64 (x.2 : Nat)] 137)
      have hJ1 := HAB.out _ _ _ _ hJs o1
      have hTT := HTT.out _ _ _ hJ1
      obtain ⟨fn, tmps, assign, body, hy, hR⟩ := yield_any (m' := 0) (HY.out pre T x _ hJ1 ⟨t, by rw [hs]; simp⟩)
      unfold encU at hy
      try dsimp only at hy
      have hkS : KeepB (KU b gu hv Bs Bl) W (wr.alloc (.cells #[.int .i64 x.1, .int .i64 (x.2 : Nat)] 137)) := hk.trans (KeepB.only o1 fun i hi => ⟨lt_of_blk (HKL.out i hi) (hk i hi), id⟩)
      have hkL : ∀ i, KU b gu hv Bs Bl i → i < (wr.alloc (.cells #[.int .i64 x.1, .int .i64 (x.2 : Nat)] 137)).heap.size := fun i hi => lt_of_blk (HKL.out i hi) (hkS i hi)
      have HKS := Lib.hid hkS
      have HKLL := Lib.hid hkL
      have HS := Lib.hid hs
      have HPP := Lib.hid hp
      have HT2 := Lib.hid hTT
      rw [← hp]
      clear hs hk hJs hml2 hx e hgS hkS o1 hpm2 hp hJ1 hTT hkL
      obtain ⟨xp, xr⟩ := x
      simp only at v1 v2 hy hR
      gi_wp2
      refine hR.mono ?_
      rintro e W3 ⟨T', ht, (⟨rfl, hJ3⟩ | ⟨rfl, hJx3⟩)⟩
      · have HTU := Lib.hid ht
        clear ht
        gi_wp2
        go_roundw
        case rel => exact ⟨pre ++ [(xp, xr)], t, T', by rw [HS.out]; simp, by rw [List.length_append, ← HPP.out]; rfl, hJ3, HKS.out.trans (KeepB.turn HTU.out (fun i hi => (HT2.out i hi).1) HKLL.out)⟩
        case measure => simp [intOf]; omega
      · gi_wp2
        refine bodyPost_ret (results_none rfl _ _ _) rfl ?_
        exact ⟨⟨_, rfl⟩, .inr ⟨_, T', ⟨t, by rw [HS.out]; simp⟩, hJx3⟩⟩

set_option maxRecDepth 100000 in
set_option maxHeartbeats 4000000 in
theorem seq_has (hlim : lim ≠ 0) (hh : has lim L = true) (hT : ∀ s T A, J s T A → ∀ i, T i → ¬ KU b gu hv Bs Bl i ∧ i < A.heap.size) (hab : ∀ s T A B, J s T A → Only (fun _ => False) A B → J s T B)
    (hY : ∀ s T x A, J s T A → (s ++ [x]) <+: L.take (pos sg lim L + 1) → YieldAt Fence.wide 0 Try.prog l (encU x) A fun e B => ∃ T', Turn T A B T' ∧ ((e = .returned (.bool true) ∧ J (s ++ [x]) T' B) ∨ (e = .returned (.bool false) ∧ Jx (s ++ [x]) T' B)))
    (hBs : W.cell? ⟨Bs, 0, none⟩ = some (.pointer (some ⟨b, 0, none⟩))) (hBl : W.cell? ⟨Bl, 0, none⟩ = some (.int .i64 lim)) (h : SideAt W b gu most sg hv L) (h0 : J [] T0 W) :
    CallsIn Fence.wide 1 Try.prog 65 #[.func (.yield l) #[] #[], .pointer (some ⟨Bs, 0, none⟩), .pointer (some ⟨Bl, 0, none⟩)] W fun e W' => (∃ v, e = .returned v) ∧
      ((∃ T, J (L.take (pos sg lim L + 1)) T W') ∨ (∃ s T, s <+: L.take (pos sg lim L + 1) ∧ Jx s T W')) := by
  have hln := h.len
  have hsm := h.small
  have t1 : (lim != 0) = true := by simpa using hlim
  obtain ⟨m, hm⟩ : ∃ m, m = (L.take (pos sg lim L + 1)).length := ⟨_, rfl⟩
  have hml : m ≤ L.length := by rw [hm]; exact List.length_take_le' _ _
  have hpm : (pos sg lim L : Int) + 1 = (m : Int) := by
    obtain ⟨x, hx, _⟩ := (has_at h.hsg h.srt).1 hh
    have := (List.getElem?_eq_some_iff.1 hx).1
    rw [hm, List.length_take]; omega
  have wp1 : IntKind.i64.wrap ((pos sg lim L : Int) + 1) = (m : Int) := by rw [IntKind.wrap_i64]; omega
  have HP := Lib.hid (callsIn_wide (n := 1 - 1).2 (s_place h lim))
  rw [hh] at HP

  obtain ⟨U, hU⟩ : ∃ U, U = (L.take (pos sg lim L + 1)) := ⟨_, rfl⟩
  rw [← hU] at hm
  have hsub : U <+: L := by rw [hU]; first | exact List.prefix_refl _ | exact List.take_prefix _ _
  obtain ⟨a, cap, hvv, hcap⟩ := own_slice h.own
  have c1 := h.c1.cell
  rw [hvv] at c1
  obtain ⟨N, hN⟩ : ∃ N, N = L.length := ⟨_, rfl⟩
  rw [← hN] at c1 hml hcap hln hvv

  have zs := cell_lt hBs
  have zl := cell_lt hBl
  have zb := cell_lt c1
  have b1 : (0 : Int) ≤ (m : Int) := by omega
  have b2 : (m : Int) ≤ (cap : Int) := by omega
  simp only [← hU] at hY ⊢
  have hKlt : ∀ i, KU b gu hv Bs Bl i → i < W.heap.size := fun i hi => by
    rcases hi with hi | hi | hi
    · exact h.blk i hi
    · omega
    · omega
  have HY := Lib.hid hY
  have HTT := Lib.hid hT
  have HKL := Lib.hid hKlt
  have HAB := Lib.hid hab
  have HSUB := Lib.hid hsub
  have HM := Lib.hid hm
  have HH := Lib.hid h
  have HVV := Lib.hid hvv
  have HNN := Lib.hid hN
  clear hY hab hsub hm hU h hvv hN hT hKlt
  refine callsIn_of_wp Try.func65 rfl trivial ?_ rfl
  simp only [Try.ntmps65, List.size_toArray, List.length_cons, List.length_nil, Nat.reduceAdd, Nat.reduceSub, Array.replicate_succ, Array.replicate_zero, List.push_toArray, List.append_toArray, List.nil_append, List.cons_append]
  gi_wp2_with fail
  refine ⟨trivial, ?_⟩
  refine HP.out.mono ?_
  rintro e w' ⟨rfl, oP⟩
  have hBs' := oP.cell hBs id
  have c1' := oP.cell c1 id
  have zs' := cell_lt hBs'
  have zb' := cell_lt c1'
  clear HP
  gi_wp2

  gi_loopw [33] (fun s wr => ∃ (pre rest : List Lvl) (T : Nat → Prop), U = pre ++ rest ∧ s = .int .i64 (pre.length : Nat) ∧ J pre T wr ∧ KeepB (KU b gu hv Bs Bl) W wr) (fun s _ => m - (intOf s).toNat)
  case atStart => exact ⟨[], U, T0, rfl, rfl, HAB.out _ _ _ _ h0 oP, KeepB.only oP fun i hi => ⟨HKL.out i hi, id⟩⟩
  case round =>
    obtain ⟨pre, rest, T, hs, rfl, hJs, hk⟩ := hrel
    have hml2 : m = pre.length + rest.length := by rw [HM.out, hs, List.length_append]
    cases rest with
    | nil =>
      have e1 : pre.length = m := by rw [hml2]; rfl
      have hUp : U = pre := by rw [hs, List.append_nil]
      subst hUp
      rw [e1]
      have HJS := Lib.hid hJs
      clear e1 hs hml2 hJs hk
      gi_wp2
      go_end0
      exact ⟨⟨_, rfl⟩, .inl ⟨_, HJS.out⟩⟩
    | cons x t =>
      obtain ⟨p, hp⟩ : ∃ p, p = pre.length := ⟨_, rfl⟩
      have hpm2 : p < m := by rw [hml2, hp]; simp
      have hx : L[p]? = some x := by
        obtain ⟨r, hr⟩ := HSUB.out
        rw [← hr, hs, hp]; simp
      obtain ⟨g, cap', e, _, hg, v1, v2⟩ := HH.out.at_ hx
      rw [HVV.out, ← HNN.out] at e
      obtain ⟨rfl, rfl⟩ : a = some ⟨g, 0, none⟩ ∧ cap = cap' := by injection e with e1 e2 e3; exact ⟨e1, e3⟩
      have hgS : KU b gu hv Bs Bl g := .inl (.inr (.inr (by rw [HVV.out]; rfl)))
      have v1 := (v1.blk (hk g hgS)).cell
      have v2 := (v2.blk (hk g hgS)).cell
      have zg := cell_lt v1
      have t2 : decide (p < m) = true := by simpa using hpm2
      have i1 : (0 : Int) ≤ (p : Int) ∧ (p : Int) < (m : Int) := by omega
      have w1 : IntKind.i64.wrap ((p : Int) + 1) = (p : Int) + 1 := by rw [IntKind.wrap_i64]; omega
      have o1 := (Only.refl (fun _ => False) wr).alloc (.cells #[.int .i64 x.1, .int .i64 (x.2 : Nat)] 137)
      have hJ1 := HAB.out _ _ _ _ hJs o1
      have hTT := HTT.out _ _ _ hJ1
      obtain ⟨fn, tmps, assign, body, hy, hR⟩ := yield_any (m' := 0) (HY.out pre T x _ hJ1 ⟨t, by rw [hs]; simp⟩)
      unfold encU at hy
      try dsimp only at hy
      have hkS : KeepB (KU b gu hv Bs Bl) W (wr.alloc (.cells #[.int .i64 x.1, .int .i64 (x.2 : Nat)] 137)) := hk.trans (KeepB.only o1 fun i hi => ⟨lt_of_blk (HKL.out i hi) (hk i hi), id⟩)
      have hkL : ∀ i, KU b gu hv Bs Bl i → i < (wr.alloc (.cells #[.int .i64 x.1, .int .i64 (x.2 : Nat)] 137)).heap.size := fun i hi => lt_of_blk (HKL.out i hi) (hkS i hi)
      have HKS := Lib.hid hkS
      have HKLL := Lib.hid hkL
      have HS := Lib.hid hs
      have HPP := Lib.hid hp
      have HT2 := Lib.hid hTT
      rw [← hp]
      clear hs hk hJs hml2 hx e hgS hkS o1 hpm2 hp hJ1 hTT hkL
      obtain ⟨xp, xr⟩ := x
      simp only at v1 v2 hy hR
      gi_wp2
      refine hR.mono ?_
      rintro e W3 ⟨T', ht, (⟨rfl, hJ3⟩ | ⟨rfl, hJx3⟩)⟩
      · have HTU := Lib.hid ht
        clear ht
        gi_wp2
        go_roundw
        case rel => exact ⟨pre ++ [(xp, xr)], t, T', by rw [HS.out]; simp, by rw [List.length_append, ← HPP.out]; rfl, hJ3, HKS.out.trans (KeepB.turn HTU.out (fun i hi => (HT2.out i hi).1) HKLL.out)⟩
        case measure => simp [intOf]; omega
      · gi_wp2
        refine bodyPost_ret (results_none rfl _ _ _) rfl ?_
        exact ⟨⟨_, rfl⟩, .inr ⟨_, T', ⟨t, by rw [HS.out]; simp⟩, hJx3⟩⟩

set_option maxRecDepth 100000 in
set_option maxHeartbeats 4000000 in
theorem seq_no (hlim : lim ≠ 0) (hh : has lim L = false) (hT : ∀ s T A, J s T A → ∀ i, T i → ¬ KU b gu hv Bs Bl i ∧ i < A.heap.size) (hab : ∀ s T A B, J s T A → Only (fun _ => False) A B → J s T B)
    (hY : ∀ s T x A, J s T A → (s ++ [x]) <+: L.take (pos sg lim L) → YieldAt Fence.wide 0 Try.prog l (encU x) A fun e B => ∃ T', Turn T A B T' ∧ ((e = .returned (.bool true) ∧ J (s ++ [x]) T' B) ∨ (e = .returned (.bool false) ∧ Jx (s ++ [x]) T' B)))
    (hBs : W.cell? ⟨Bs, 0, none⟩ = some (.pointer (some ⟨b, 0, none⟩))) (hBl : W.cell? ⟨Bl, 0, none⟩ = some (.int .i64 lim)) (h : SideAt W b gu most sg hv L) (h0 : J [] T0 W) :
    CallsIn Fence.wide 1 Try.prog 65 #[.func (.yield l) #[] #[], .pointer (some ⟨Bs, 0, none⟩), .pointer (some ⟨Bl, 0, none⟩)] W fun e W' => (∃ v, e = .returned v) ∧
      ((∃ T, J (L.take (pos sg lim L)) T W') ∨ (∃ s T, s <+: L.take (pos sg lim L) ∧ Jx s T W')) := by
  have hln := h.len
  have hsm := h.small
  have t1 : (lim != 0) = true := by simpa using hlim
  obtain ⟨m, hm⟩ : ∃ m, m = (L.take (pos sg lim L)).length := ⟨_, rfl⟩
  have hml : m ≤ L.length := by rw [hm]; exact List.length_take_le' _ _
  have hpm : pos sg lim L = m := by have := pos_le sg lim L; rw [hm, List.length_take]; omega
  have HP := Lib.hid (callsIn_wide (n := 1 - 1).2 (s_place h lim))
  rw [hh, hpm] at HP

  obtain ⟨U, hU⟩ : ∃ U, U = (L.take (pos sg lim L)) := ⟨_, rfl⟩
  rw [← hU] at hm
  have hsub : U <+: L := by rw [hU]; first | exact List.prefix_refl _ | exact List.take_prefix _ _
  obtain ⟨a, cap, hvv, hcap⟩ := own_slice h.own
  have c1 := h.c1.cell
  rw [hvv] at c1
  obtain ⟨N, hN⟩ : ∃ N, N = L.length := ⟨_, rfl⟩
  rw [← hN] at c1 hml hcap hln hvv

  have zs := cell_lt hBs
  have zl := cell_lt hBl
  have zb := cell_lt c1
  have b1 : (0 : Int) ≤ (m : Int) := by omega
  have b2 : (m : Int) ≤ (cap : Int) := by omega
  simp only [← hU] at hY ⊢
  have hKlt : ∀ i, KU b gu hv Bs Bl i → i < W.heap.size := fun i hi => by
    rcases hi with hi | hi | hi
    · exact h.blk i hi
    · omega
    · omega
  have HY := Lib.hid hY
  have HTT := Lib.hid hT
  have HKL := Lib.hid hKlt
  have HAB := Lib.hid hab
  have HSUB := Lib.hid hsub
  have HM := Lib.hid hm
  have HH := Lib.hid h
  have HVV := Lib.hid hvv
  have HNN := Lib.hid hN
  clear hY hab hsub hm hU h hvv hN hT hKlt
  refine callsIn_of_wp Try.func65 rfl trivial ?_ rfl
  simp only [Try.ntmps65, List.size_toArray, List.length_cons, List.length_nil, Nat.reduceAdd, Nat.reduceSub, Array.replicate_succ, Array.replicate_zero, List.push_toArray, List.append_toArray, List.nil_append, List.cons_append]
  gi_wp2_with fail
  refine ⟨trivial, ?_⟩
  refine HP.out.mono ?_
  rintro e w' ⟨rfl, oP⟩
  have hBs' := oP.cell hBs id
  have c1' := oP.cell c1 id
  have zs' := cell_lt hBs'
  have zb' := cell_lt c1'
  clear HP
  gi_wp2

  gi_loopw [33] (fun s wr => ∃ (pre rest : List Lvl) (T : Nat → Prop), U = pre ++ rest ∧ s = .int .i64 (pre.length : Nat) ∧ J pre T wr ∧ KeepB (KU b gu hv Bs Bl) W wr) (fun s _ => m - (intOf s).toNat)
  case atStart => exact ⟨[], U, T0, rfl, rfl, HAB.out _ _ _ _ h0 oP, KeepB.only oP fun i hi => ⟨HKL.out i hi, id⟩⟩
  case round =>
    obtain ⟨pre, rest, T, hs, rfl, hJs, hk⟩ := hrel
    have hml2 : m = pre.length + rest.length := by rw [HM.out, hs, List.length_append]
    cases rest with
    | nil =>
      have e1 : pre.length = m := by rw [hml2]; rfl
      have hUp : U = pre := by rw [hs, List.append_nil]
      subst hUp
      rw [e1]
      have HJS := Lib.hid hJs
      clear e1 hs hml2 hJs hk
      gi_wp2
      go_end0
      exact ⟨⟨_, rfl⟩, .inl ⟨_, HJS.out⟩⟩
    | cons x t =>
      obtain ⟨p, hp⟩ : ∃ p, p = pre.length := ⟨_, rfl⟩
      have hpm2 : p < m := by rw [hml2, hp]; simp
      have hx : L[p]? = some x := by
        obtain ⟨r, hr⟩ := HSUB.out
        rw [← hr, hs, hp]; simp
      obtain ⟨g, cap', e, _, hg, v1, v2⟩ := HH.out.at_ hx
      rw [HVV.out, ← HNN.out] at e
      obtain ⟨rfl, rfl⟩ : a = some ⟨g, 0, none⟩ ∧ cap = cap' := by injection e with e1 e2 e3; exact ⟨e1, e3⟩
      have hgS : KU b gu hv Bs Bl g := .inl (.inr (.inr (by rw [HVV.out]; rfl)))
      have v1 := (v1.blk (hk g hgS)).cell
      have v2 := (v2.blk (hk g hgS)).cell
      have zg := cell_lt v1
      have t2 : decide (p < m) = true := by simpa using hpm2
      have i1 : (0 : Int) ≤ (p : Int) ∧ (p : Int) < (m : Int) := by omega
      have w1 : IntKind.i64.wrap ((p : Int) + 1) = (p : Int) + 1 := by rw [IntKind.wrap_i64]; omega
      have o1 := (Only.refl (fun _ => False) wr).alloc (.cells #[.int .i64 x.1, .int .i64 (x.2 : Nat)] 137)
      have hJ1 := HAB.out _ _ _ _ hJs o1
      have hTT := HTT.out _ _ _ hJ1
      obtain ⟨fn, tmps, assign, body, hy, hR⟩ := yield_any (m' := 0) (HY.out pre T x _ hJ1 ⟨t, by rw [hs]; simp⟩)
      unfold encU at hy
      try dsimp only at hy
      have hkS : KeepB (KU b gu hv Bs Bl) W (wr.alloc (.cells #[.int .i64 x.1, .int .i64 (x.2 : Nat)] 137)) := hk.trans (KeepB.only o1 fun i hi => ⟨lt_of_blk (HKL.out i hi) (hk i hi), id⟩)
      have hkL : ∀ i, KU b gu hv Bs Bl i → i < (wr.alloc (.cells #[.int .i64 x.1, .int .i64 (x.2 : Nat)] 137)).heap.size := fun i hi => lt_of_blk (HKL.out i hi) (hkS i hi)
      have HKS := Lib.hid hkS
      have HKLL := Lib.hid hkL
      have HS := Lib.hid hs
      have HPP := Lib.hid hp
      have HT2 := Lib.hid hTT
      rw [← hp]
      clear hs hk hJs hml2 hx e hgS hkS o1 hpm2 hp hJ1 hTT hkL
      obtain ⟨xp, xr⟩ := x
      simp only at v1 v2 hy hR
      gi_wp2
      refine hR.mono ?_
      rintro e W3 ⟨T', ht, (⟨rfl, hJ3⟩ | ⟨rfl, hJx3⟩)⟩
      · have HTU := Lib.hid ht
        clear ht
        gi_wp2
        go_roundw
        case rel => exact ⟨pre ++ [(xp, xr)], t, T', by rw [HS.out]; simp, by rw [List.length_append, ← HPP.out]; rfl, hJ3, HKS.out.trans (KeepB.turn HTU.out (fun i hi => (HT2.out i hi).1) HKLL.out)⟩
        case measure => simp [intOf]; omega
      · gi_wp2
        refine bodyPost_ret (results_none rfl _ _ _) rfl ?_
        exact ⟨⟨_, rfl⟩, .inr ⟨_, T', ⟨t, by rw [HS.out]; simp⟩, hJx3⟩⟩
end

theorem KU.keep {w W : World} {b gu most Bs Bl : Nat} {sg lim : Int} {hv : Value} {L : List Lvl} (hBs : Cell w Bs 0 (.pointer (some ⟨b, 0, none⟩))) (hBl : Cell w Bl 0 (.int .i64 lim)) (h : SideAt w b gu most sg hv L) (k : KeepB (KU b gu hv Bs Bl) w W) :
    W.cell? ⟨Bs, 0, none⟩ = some (.pointer (some ⟨b, 0, none⟩)) ∧ W.cell? ⟨Bl, 0, none⟩ = some (.int .i64 lim) ∧ SideAt W b gu most sg hv L :=
  ⟨(hBs.blk (k Bs (.inr (.inl rfl)))).cell, (hBl.blk (k Bl (.inr (.inr rfl)))).cell, h.keepB (S := SdB b gu hv) (fun i hi => k i (.inl hi)) (fun _ h => h)⟩

/-- Upto's value tells the prices that are as good as the limit, the best first. -/
theorem upto_seq {w : World} {Bs Bl b gu most : Nat} {sg lim : Int} {hv : Value} {L : List Lvl} (hBs : Cell w Bs 0 (.pointer (some ⟨b, 0, none⟩))) (hBl : Cell w Bl 0 (.int .i64 lim)) (h : SideAt w b gu most sg hv L) :
    SeqT Try.prog 65 #[.pointer (some ⟨Bs, 0, none⟩), .pointer (some ⟨Bl, 0, none⟩)] encU (KU b gu hv Bs Bl) (uptoL sg lim L) w := fun l J Jx W T0 hsz hK hT hJ hJx hY h0 => by
  obtain ⟨e1, e2, e3⟩ := KU.keep hBs hBl h hK
  have hab : ∀ s T A B, J s T A → Only (fun _ => False) A B → J s T B := fun s T A B hs ho => hJ s T A B _ hs ho (fun _ h => h.elim)
  refine callsIn_wide (n := 1).1 ?_
  by_cases h1 : lim = 0
  · have e : uptoL sg lim L = L := by unfold uptoL; rw [if_pos h1]
    rw [e] at hY ⊢
    exact seq_zero l Bs Bl b gu most sg lim hv L J Jx W T0 h1 hT hab hY e1 e2 e3 h0
  · cases h2 : has lim L with
    | true =>
      have e : uptoL sg lim L = L.take (pos sg lim L + 1) := by unfold uptoL; rw [if_neg h1, if_pos h2]
      rw [e] at hY ⊢
      exact seq_has l Bs Bl b gu most sg lim hv L J Jx W T0 h1 h2 hT hab hY e1 e2 e3 h0
    | false =>
      have e : uptoL sg lim L = L.take (pos sg lim L) := by unfold uptoL; rw [if_neg h1, if_neg (by rw [h2]; decide)]
      rw [e] at hY ⊢
      exact seq_no l Bs Bl b gu most sg lim hv L J Jx W T0 h1 h2 hT hab hY e1 e2 e3 h0

/-! ### The orders' All -/
/-- What All reads. -/
def KA (b gl gr gf Ba Br : Nat) (i : Nat) : Prop := Blk4 b gl gr gf i ∨ i = Ba ∨ i = Br
set_option maxRecDepth 100000 in
set_option maxHeartbeats 4000000 in
theorem all_seq {w : World} {Ba Br b gl gr gf nr room : Nat} {R : Nat → List Nat} {V : Nat → OrdR} {r0 : Nat} (hr0 : r0 < nr) (hBa : Cell w Ba 0 (.pointer (some ⟨b, 0, none⟩))) (hBr : Cell w Br 0 (.int .i64 (r0 : Nat))) (hL : Lay w b gl gr gf nr room R V) :
    SeqT Try.prog 138 #[.pointer (some ⟨Ba, 0, none⟩), .pointer (some ⟨Br, 0, none⟩)] Od.encI (KA b gl gr gf Ba Br) ((R r0).map fun n => (n, V n)) w := fun l J Jx W T0 hsz hK hT hJ hJx hY h0 => by
  have hnd := hL.nd hr0
  have hBa := (hBa.blk (hK Ba (.inr (.inl rfl)))).cell
  have hBr := (hBr.blk (hK Br (.inr (.inr rfl)))).cell
  have hL := hL.keepB (S := Blk4 b gl gr gf) (fun i hi => hK i (.inl hi)) (fun _ h => h)
  have hKlt : ∀ i, KA b gl gr gf Ba Br i → i < W.heap.size := fun i hi => by
    rcases hi with hi | hi | hi
    · exact hL.blk i hi
    · rw [hi]; exact cell_lt hBa
    · rw [hi]; exact cell_lt hBr
  have HF := Lib.hid (callsIn_wide (n := 1 - 1).2 (Od.h_first W b gl gr gf nr room R V hL r0 hr0))
  obtain ⟨L, hLL⟩ : ∃ L, L = R r0 := ⟨_, rfl⟩
  rw [← hLL] at HF hnd hY
  simp only [← hLL] at ⊢
  have HLL := Lib.hid hLL
  have HYY := Lib.hid hY
  have HTT := Lib.hid hT
  have HKL := Lib.hid hKlt
  have HL := Lib.hid hL
  have HND := Lib.hid hnd
  have zba := cell_lt hBa
  have zbr := cell_lt hBr
  have HBA0 := Lib.hid hBa
  clear hY hT hKlt hK hJ hJx hLL hnd hL
  refine callsIn_wide (n := 1).1 ?_
  refine callsIn_of_wp Try.func138 rfl trivial ?_ rfl
  simp only [Try.ntmps138, List.size_toArray, List.length_cons, List.length_nil, Nat.reduceAdd, Nat.reduceSub, Array.replicate_succ, Array.replicate_zero, List.push_toArray, List.append_toArray, List.nil_append, List.cons_append]
  gi_wp2_with (refine ⟨trivial, ?_⟩; gi_at_call 139; refine HF.out.mono ?_; rintro e w' ⟨rfl, rfl⟩)
  clear HF
  gi_loopw [4] (fun p wr => ∃ (l1 l2 : List Nat) (T : Nat → Prop), L = l1 ++ l2 ∧ p = .int .i64 (Od.hdI l2) ∧ J (l1.map fun n => (n, V n)) T wr ∧ KeepB (KA b gl gr gf Ba Br) W wr)
    (fun p wr => Od.leftN L (intOf p))
  case atStart => exact ⟨[], L, T0, rfl, rfl, h0, KeepB.refl _ _⟩
  case round =>
    obtain ⟨l1, l2, T, hs, rfl, hJs, hk⟩ := hrel
    cases l2 with
    | nil =>
      have e : Od.hdI ([] : List Nat) = -1 := rfl
      rw [e]
      gi_wp2
      go_end0
      exact ⟨⟨_, rfl⟩, .inl ⟨T, by rw [hs, List.append_nil]; exact hJs⟩⟩
    | cons x t =>
      have e : Od.hdI (x :: t) = (x : Int) := rfl
      rw [e]
      have e1 : ((x : Int) != -1) = true := by simp
      have hTT := HTT.out _ _ _ hJs
      have hkL : ∀ i, KA b gl gr gf Ba Br i → i < wr.heap.size := fun i hi => lt_of_blk (HKL.out i hi) (hk i hi)
      have HT2 := Lib.hid hTT
      have HKLL := Lib.hid hkL
      obtain ⟨fn, tmps, assign, body, hy, hR⟩ := yield_any (m' := 0) (HYY.out _ T (x, V x) wr hJs ⟨t.map fun n => (n, V n), by rw [hs]; simp⟩)
      unfold Od.encI at hy
      dsimp only at hy
      have hLw := HL.out.keepB hk (fun i hi => .inl hi)
      have hba := (World.cell?_of_block (a := ⟨Ba, 0, none⟩) (hk Ba (.inr (.inl rfl)))).trans HBA0.out
      have hRr : R r0 = l1 ++ x :: t := by rw [← HLL.out]; exact hs
      obtain ⟨A, hA, hRA, rfl, rfl, rfl, rfl, rfl, ht⟩ := hLw
      have hxr := hRA.lt r0 hr0 x (by rw [hRr]; simp)
      have hsm := hA.small.1
      have c0 := hA.c0.cell
      have t00 := (hA.l0 x hxr 0 (.int .i64 (V x).i) (by rw [ht x hxr]; rfl)).cell
      have t01 := (hA.l0 x hxr 1 (.int .i64 (V x).c) (by rw [ht x hxr]; rfl)).cell
      have t02 := (hA.l0 x hxr 2 (.int .u8 (V x).s) (by rw [ht x hxr]; rfl)).cell
      have t03 := (hA.l0 x hxr 3 (.int .i64 (V x).p) (by rw [ht x hxr]; rfl)).cell
      have t04 := (hA.l0 x hxr 4 (.int .i64 (V x).q) (by rw [ht x hxr]; rfl)).cell
      rw [Nat.add_zero] at t00
      have t3 := (hA.l3 x hxr).cell
      rw [(hRA.lk r0 hr0 l1 x t hRr).2] at t3
      have HC0 := Lib.hid c0
      have HT3 := Lib.hid t3
      have HBA := Lib.hid hba
      have HS := Lib.hid hs
      have HK := Lib.hid hk
      clear hA hRA ht t3 hs hRr e hTT hkL hk hJs
      gi_wp2
      refine hR.mono ?_
      rintro e W3 ⟨T', ht, (⟨rfl, hJ3⟩ | ⟨rfl, hJx3⟩)⟩
      · have hk3 := KeepB.turn ht (fun i hi => (HT2.out i hi).1) HKLL.out
        have hba3 := (World.cell?_of_block (a := ⟨Ba, 0, none⟩) (hk3 Ba (.inr (.inl rfl)))).trans HBA.out
        have c3 := (World.cell?_of_block (a := ⟨b, 0, none⟩) (hk3 b (.inl (.inl rfl)))).trans HC0.out
        have f3 := (World.cell?_of_block (a := ⟨A.gl, x * 8 + 7, none⟩) (hk3 A.gl (.inl (.inr (.inl rfl))))).trans HT3.out
        have htop : ∃ top, top = Od.hdI t := ⟨_, rfl⟩
        obtain ⟨top, htop⟩ := htop
        rw [← htop] at f3
        have HT := Lib.hid htop
        have HK3 := Lib.hid hk3
        clear htop hba c0 t00 t01 t02 t03 t04 ht hk3
        gi_wp2
        go_roundw
        case rel => exact ⟨l1 ++ [x], t, T', by rw [HS.out]; simp, by rw [HT.out], by rw [List.map_append]; exact hJ3, HK.out.trans HK3.out⟩
        case measure =>
          have h1 := Od.leftN_eq (l1 := l1) (l2 := x :: t) HS.out HND.out
          have h2 := Od.leftN_eq (L := L) (l1 := l1 ++ [x]) (l2 := t) (by rw [HS.out]; simp) HND.out
          simp only [Od.hdI] at h1
          simp only [intOf, HT.out, h1, h2, List.length_cons]
          omega
      · clear ht
        gi_wp2
        refine bodyPost_ret (results_none rfl _ _ _) rfl ?_
        exact ⟨⟨_, rfl⟩, .inr ⟨_, T', ⟨t.map fun n => (n, V n), by rw [HS.out]; simp⟩, hJx3⟩⟩
end Go.Proofs.Ytilngakgofjmpaa
