/- Levels: Upto, a range over a function: its contract. Conditions: a side as its New lays it. -/
import Derived.Test.YtkglplngnjgnhaaLv9
namespace Go.Proofs.Ytkglplngnjgnhaa
set_option linter.unusedVariables false
set_option linter.unusedSimpArgs false
open Go.RowKit Go.Shelf
attribute [local go_sem] Oper.semAt_some

/-- What a round is handed: a price and its row. -/
abbrev Lvl := Int × Nat
def encU (x : Lvl) : Array Value := #[.int .i64 x.1, .int .i64 (x.2 : Nat)]
/-- The prices that are as good as a limit. -/
def uptoL (sg lim : Int) (L : List Lvl) : List Lvl := if lim = 0 then L else if has lim L then L.take (pos sg lim L + 1) else L.take (pos sg lim L)

theorem Only.grown0 {W W' : World} (o : Only (fun _ => False) W W') : W.grownBy W' none := ⟨o.os, o.tape, o.output, o.size, fun k hk _ => o.block k hk id⟩

set_option maxRecDepth 100000 in
set_option maxHeartbeats 4000000 in
theorem upto_zero (n : Nat) (hn : 1 ≤ n) (l Bs Bl b gu most : Nat) (sg lim : Int) (hv : Value) (L : List Lvl) (hlim : lim = 0) (J Jx : List Lvl → World → Prop) (hab : ∀ s W W', J s W → W.grownBy W' none → J s W')
    (hY : ∀ pre x W, J pre W → pre.length < L.length → YieldAt Fence.wide (n - 1) Try.prog l (encU x) W fun e W' =>
      (e = .returned (.bool true) ∧ J (pre ++ [x]) W' ∧ KeepB (SdB b gu hv) W W') ∨ (e = .returned (.bool false) ∧ Jx (pre ++ [x]) W'))
    (W : World) (hBs : W.cell? ⟨Bs, 0, none⟩ = some (.pointer (some ⟨b, 0, none⟩))) (hBl : W.cell? ⟨Bl, 0, none⟩ = some (.int .i64 lim)) (h : SideAt W b gu most sg hv L) (h0 : J [] W) :
    CallsIn Fence.wide n Try.prog 45 #[.func (.yield l) #[] #[], .pointer (some ⟨Bs, 0, none⟩), .pointer (some ⟨Bl, 0, none⟩)] W fun e W' => (∃ v, e = .returned v) ∧
      ((∃ ys, ys = L ∧ J ys W') ∨ (∃ pre, pre <+: L ∧ Jx pre W')) := by
  have hln := h.len
  have hsm := h.small
  subst hlim
  obtain ⟨m, hm⟩ : ∃ m, m = L.length := ⟨_, rfl⟩
  have hml : m ≤ L.length := by omega
  have hm0 := hm
  obtain ⟨U, hU⟩ : ∃ U, U = L := ⟨_, rfl⟩
  rw [← hU] at hm
  have hsub : U <+: L := by rw [hU]; first | exact List.prefix_refl _ | exact List.take_prefix _ _
  obtain ⟨a, cap, hvv, hcap⟩ := own_slice h.own
  have c1 := h.c1.cell
  rw [hvv] at c1
  obtain ⟨N, hN⟩ : ∃ N, N = L.length := ⟨_, rfl⟩
  obtain rfl : m = N := by rw [hN, hm0]
  rw [← hN] at c1 hml hcap hln hvv
  have zs := cell_lt hBs
  have zl := cell_lt hBl
  have zb := cell_lt c1
  have b1 : (0 : Int) ≤ (m : Int) := by omega
  have b2 : (m : Int) ≤ (cap : Int) := by omega
  simp only [← hU] at hY ⊢
  have HY := Lib.hid hY
  have HAB := Lib.hid hab
  have HSUB := Lib.hid hsub
  have HM := Lib.hid hm
  have HH := Lib.hid h
  have HVV := Lib.hid hvv
  have HNN := Lib.hid hN
  clear hY hab hsub hm hU h hvv hN
  refine callsIn_of_wp Try.func45 rfl trivial ?_ rfl
  simp only [Try.ntmps45, List.size_toArray, List.length_cons, List.length_nil, Nat.reduceAdd, Nat.reduceSub, Array.replicate_succ, Array.replicate_zero, List.push_toArray, List.append_toArray, List.nil_append, List.cons_append]
  gi_wp2
  have oP := Only.refl (fun _ => False) W
  gi_loopw [33] (fun s wr => ∃ (pre rest : List Lvl), U = pre ++ rest ∧ s = .int .i64 (pre.length : Nat) ∧ J pre wr ∧ KeepB (SdB b gu hv) W wr) (fun s _ => m - (intOf s).toNat)
  case atStart => exact ⟨[], U, rfl, rfl, HAB.out _ _ _ h0 oP.grown0, KeepB.only oP fun i hi => ⟨HH.out.blk i hi, id⟩⟩
  case round =>
    obtain ⟨pre, rest, hs, rfl, hJs, hk⟩ := hrel
    have hml2 : m = pre.length + rest.length := by rw [HM.out, hs, List.length_append]
    cases rest with
    | nil =>
      have e1 : pre.length = m := by rw [hml2]; rfl
      have hUp : U = pre := by rw [hs, List.append_nil]
      subst hUp
      rw [e1]
      have HJS := Lib.hid hJs
      clear e1 hs hml2 hJs hk
      gi_wp2
      go_end0
      exact ⟨⟨_, rfl⟩, .inl ⟨_, rfl, HJS.out⟩⟩
    | cons x t =>
      obtain ⟨p, hp⟩ : ∃ p, p = pre.length := ⟨_, rfl⟩
      have hpm2 : p < m := by rw [hml2, hp]; simp
      have hx : L[p]? = some x := by
        obtain ⟨r, hr⟩ := HSUB.out
        rw [← hr, hs, hp]; simp
      obtain ⟨g, cap', e, _, hg, v1, v2⟩ := HH.out.at_ hx
      rw [HVV.out, ← HNN.out] at e
      obtain ⟨rfl, rfl⟩ : a = some ⟨g, 0, none⟩ ∧ cap = cap' := by injection e with e1 e2 e3; exact ⟨e1, e3⟩
      have hgS : SdB b gu hv g := .inr (.inr (by rw [HVV.out]; rfl))
      have v1 := (v1.blk (hk g hgS)).cell
      have v2 := (v2.blk (hk g hgS)).cell
      have zg := cell_lt v1
      have t2 : decide (p < m) = true := by simpa using hpm2
      have i1 : (0 : Int) ≤ (p : Int) ∧ (p : Int) < (m : Int) := by omega
      have w1 : IntKind.i64.wrap ((p : Int) + 1) = (p : Int) + 1 := by rw [IntKind.wrap_i64]; omega
      have o1 := (Only.refl (fun _ => False) wr).alloc (.cells #[.int .i64 x.1, .int .i64 (x.2 : Nat)] 110)
      obtain ⟨fn, tmps, assign, body, hy, hR⟩ := HY.out pre x _ (HAB.out _ _ _ hJs o1.grown0) (by rw [← HM.out, ← hp]; exact hpm2)
      unfold encU at hy
      try dsimp only at hy
      have hkS : KeepB (SdB b gu hv) wr (wr.alloc (.cells #[.int .i64 x.1, .int .i64 (x.2 : Nat)] 110)) := KeepB.only o1 fun i hi => ⟨lt_of_blk (HH.out.blk i hi) (hk i hi), id⟩
      have HKS := Lib.hid hkS
      have HS := Lib.hid hs
      have HK := Lib.hid hk
      have HJS := Lib.hid hJs
      have HPP := Lib.hid hp
      rw [← hp]
      clear hs hk hJs hml2 hx e hgS hkS o1 hpm2 hp
      obtain ⟨xp, xr⟩ := x
      simp only at v1 v2 hy hR
      gi_wp2
      refine hR.mono ?_
      rintro e W3 (⟨rfl, hJ3, hk3⟩ | ⟨rfl, hJx3⟩)
      · gi_wp2
        go_roundw
        case rel => exact ⟨pre ++ [(xp, xr)], t, by rw [HS.out]; simp, by rw [List.length_append, ← HPP.out]; rfl, hJ3, (HK.out.trans HKS.out).trans hk3⟩
        case measure => simp [intOf]; omega
      · gi_wp2
        refine bodyPost_ret (results_none rfl _ _ _) rfl ?_
        exact ⟨⟨_, rfl⟩, .inr ⟨_, ⟨t, by rw [HS.out]; simp⟩, hJx3⟩⟩

set_option maxRecDepth 100000 in
set_option maxHeartbeats 4000000 in
theorem upto_has (n : Nat) (hn : 1 ≤ n) (l Bs Bl b gu most : Nat) (sg lim : Int) (hv : Value) (L : List Lvl) (hlim : lim ≠ 0) (hh : has lim L = true) (J Jx : List Lvl → World → Prop) (hab : ∀ s W W', J s W → W.grownBy W' none → J s W')
    (hY : ∀ pre x W, J pre W → pre.length < (L.take (pos sg lim L + 1)).length → YieldAt Fence.wide (n - 1) Try.prog l (encU x) W fun e W' =>
      (e = .returned (.bool true) ∧ J (pre ++ [x]) W' ∧ KeepB (SdB b gu hv) W W') ∨ (e = .returned (.bool false) ∧ Jx (pre ++ [x]) W'))
    (W : World) (hBs : W.cell? ⟨Bs, 0, none⟩ = some (.pointer (some ⟨b, 0, none⟩))) (hBl : W.cell? ⟨Bl, 0, none⟩ = some (.int .i64 lim)) (h : SideAt W b gu most sg hv L) (h0 : J [] W) :
    CallsIn Fence.wide n Try.prog 45 #[.func (.yield l) #[] #[], .pointer (some ⟨Bs, 0, none⟩), .pointer (some ⟨Bl, 0, none⟩)] W fun e W' => (∃ v, e = .returned v) ∧
      ((∃ ys, ys = (L.take (pos sg lim L + 1)) ∧ J ys W') ∨ (∃ pre, pre <+: (L.take (pos sg lim L + 1)) ∧ Jx pre W')) := by
  have hln := h.len
  have hsm := h.small
  have t1 : (lim != 0) = true := by simpa using hlim
  obtain ⟨m, hm⟩ : ∃ m, m = (L.take (pos sg lim L + 1)).length := ⟨_, rfl⟩
  have hml : m ≤ L.length := by rw [hm]; exact List.length_take_le' _ _
  have hpm : (pos sg lim L : Int) + 1 = (m : Int) := by
    obtain ⟨x, hx, _⟩ := (has_at h.hsg h.srt).1 hh
    have := (List.getElem?_eq_some_iff.1 hx).1
    rw [hm, List.length_take]; omega
  have wp1 : IntKind.i64.wrap ((pos sg lim L : Int) + 1) = (m : Int) := by rw [IntKind.wrap_i64]; omega
  have HP := Lib.hid (callsIn_wide (n := n - 1).2 (s_place h lim))
  rw [hh] at HP
  obtain ⟨U, hU⟩ : ∃ U, U = (L.take (pos sg lim L + 1)) := ⟨_, rfl⟩
  rw [← hU] at hm
  have hsub : U <+: L := by rw [hU]; first | exact List.prefix_refl _ | exact List.take_prefix _ _
  obtain ⟨a, cap, hvv, hcap⟩ := own_slice h.own
  have c1 := h.c1.cell
  rw [hvv] at c1
  obtain ⟨N, hN⟩ : ∃ N, N = L.length := ⟨_, rfl⟩
  rw [← hN] at c1 hml hcap hln hvv
  have zs := cell_lt hBs
  have zl := cell_lt hBl
  have zb := cell_lt c1
  have b1 : (0 : Int) ≤ (m : Int) := by omega
  have b2 : (m : Int) ≤ (cap : Int) := by omega
  simp only [← hU] at hY ⊢
  have HY := Lib.hid hY
  have HAB := Lib.hid hab
  have HSUB := Lib.hid hsub
  have HM := Lib.hid hm
  have HH := Lib.hid h
  have HVV := Lib.hid hvv
  have HNN := Lib.hid hN
  clear hY hab hsub hm hU h hvv hN
  refine callsIn_of_wp Try.func45 rfl trivial ?_ rfl
  simp only [Try.ntmps45, List.size_toArray, List.length_cons, List.length_nil, Nat.reduceAdd, Nat.reduceSub, Array.replicate_succ, Array.replicate_zero, List.push_toArray, List.append_toArray, List.nil_append, List.cons_append]
  gi_wp2_with fail
  refine ⟨trivial, ?_⟩
  refine HP.out.mono ?_
  rintro e w' ⟨rfl, oP⟩
  have hBs' := oP.cell hBs id
  have c1' := oP.cell c1 id
  have zs' := cell_lt hBs'
  have zb' := cell_lt c1'
  clear HP
  gi_wp2
  gi_loopw [33] (fun s wr => ∃ (pre rest : List Lvl), U = pre ++ rest ∧ s = .int .i64 (pre.length : Nat) ∧ J pre wr ∧ KeepB (SdB b gu hv) W wr) (fun s _ => m - (intOf s).toNat)
  case atStart => exact ⟨[], U, rfl, rfl, HAB.out _ _ _ h0 oP.grown0, KeepB.only oP fun i hi => ⟨HH.out.blk i hi, id⟩⟩
  case round =>
    obtain ⟨pre, rest, hs, rfl, hJs, hk⟩ := hrel
    have hml2 : m = pre.length + rest.length := by rw [HM.out, hs, List.length_append]
    cases rest with
    | nil =>
      have e1 : pre.length = m := by rw [hml2]; rfl
      have hUp : U = pre := by rw [hs, List.append_nil]
      subst hUp
      rw [e1]
      have HJS := Lib.hid hJs
      clear e1 hs hml2 hJs hk
      gi_wp2
      go_end0
      exact ⟨⟨_, rfl⟩, .inl ⟨_, rfl, HJS.out⟩⟩
    | cons x t =>
      obtain ⟨p, hp⟩ : ∃ p, p = pre.length := ⟨_, rfl⟩
      have hpm2 : p < m := by rw [hml2, hp]; simp
      have hx : L[p]? = some x := by
        obtain ⟨r, hr⟩ := HSUB.out
        rw [← hr, hs, hp]; simp
      obtain ⟨g, cap', e, _, hg, v1, v2⟩ := HH.out.at_ hx
      rw [HVV.out, ← HNN.out] at e
      obtain ⟨rfl, rfl⟩ : a = some ⟨g, 0, none⟩ ∧ cap = cap' := by injection e with e1 e2 e3; exact ⟨e1, e3⟩
      have hgS : SdB b gu hv g := .inr (.inr (by rw [HVV.out]; rfl))
      have v1 := (v1.blk (hk g hgS)).cell
      have v2 := (v2.blk (hk g hgS)).cell
      have zg := cell_lt v1
      have t2 : decide (p < m) = true := by simpa using hpm2
      have i1 : (0 : Int) ≤ (p : Int) ∧ (p : Int) < (m : Int) := by omega
      have w1 : IntKind.i64.wrap ((p : Int) + 1) = (p : Int) + 1 := by rw [IntKind.wrap_i64]; omega
      have o1 := (Only.refl (fun _ => False) wr).alloc (.cells #[.int .i64 x.1, .int .i64 (x.2 : Nat)] 110)
      obtain ⟨fn, tmps, assign, body, hy, hR⟩ := HY.out pre x _ (HAB.out _ _ _ hJs o1.grown0) (by rw [← HM.out, ← hp]; exact hpm2)
      unfold encU at hy
      try dsimp only at hy
      have hkS : KeepB (SdB b gu hv) wr (wr.alloc (.cells #[.int .i64 x.1, .int .i64 (x.2 : Nat)] 110)) := KeepB.only o1 fun i hi => ⟨lt_of_blk (HH.out.blk i hi) (hk i hi), id⟩
      have HKS := Lib.hid hkS
      have HS := Lib.hid hs
      have HK := Lib.hid hk
      have HJS := Lib.hid hJs
      have HPP := Lib.hid hp
      rw [← hp]
      clear hs hk hJs hml2 hx e hgS hkS o1 hpm2 hp
      obtain ⟨xp, xr⟩ := x
      simp only at v1 v2 hy hR
      gi_wp2
      refine hR.mono ?_
      rintro e W3 (⟨rfl, hJ3, hk3⟩ | ⟨rfl, hJx3⟩)
      · gi_wp2
        go_roundw
        case rel => exact ⟨pre ++ [(xp, xr)], t, by rw [HS.out]; simp, by rw [List.length_append, ← HPP.out]; rfl, hJ3, (HK.out.trans HKS.out).trans hk3⟩
        case measure => simp [intOf]; omega
      · gi_wp2
        refine bodyPost_ret (results_none rfl _ _ _) rfl ?_
        exact ⟨⟨_, rfl⟩, .inr ⟨_, ⟨t, by rw [HS.out]; simp⟩, hJx3⟩⟩

set_option maxRecDepth 100000 in
set_option maxHeartbeats 4000000 in
theorem upto_no (n : Nat) (hn : 1 ≤ n) (l Bs Bl b gu most : Nat) (sg lim : Int) (hv : Value) (L : List Lvl) (hlim : lim ≠ 0) (hh : has lim L = false) (J Jx : List Lvl → World → Prop) (hab : ∀ s W W', J s W → W.grownBy W' none → J s W')
    (hY : ∀ pre x W, J pre W → pre.length < (L.take (pos sg lim L)).length → YieldAt Fence.wide (n - 1) Try.prog l (encU x) W fun e W' =>
      (e = .returned (.bool true) ∧ J (pre ++ [x]) W' ∧ KeepB (SdB b gu hv) W W') ∨ (e = .returned (.bool false) ∧ Jx (pre ++ [x]) W'))
    (W : World) (hBs : W.cell? ⟨Bs, 0, none⟩ = some (.pointer (some ⟨b, 0, none⟩))) (hBl : W.cell? ⟨Bl, 0, none⟩ = some (.int .i64 lim)) (h : SideAt W b gu most sg hv L) (h0 : J [] W) :
    CallsIn Fence.wide n Try.prog 45 #[.func (.yield l) #[] #[], .pointer (some ⟨Bs, 0, none⟩), .pointer (some ⟨Bl, 0, none⟩)] W fun e W' => (∃ v, e = .returned v) ∧
      ((∃ ys, ys = (L.take (pos sg lim L)) ∧ J ys W') ∨ (∃ pre, pre <+: (L.take (pos sg lim L)) ∧ Jx pre W')) := by
  have hln := h.len
  have hsm := h.small
  have t1 : (lim != 0) = true := by simpa using hlim
  obtain ⟨m, hm⟩ : ∃ m, m = (L.take (pos sg lim L)).length := ⟨_, rfl⟩
  have hml : m ≤ L.length := by rw [hm]; exact List.length_take_le' _ _
  have hpm : pos sg lim L = m := by have := pos_le sg lim L; rw [hm, List.length_take]; omega
  have HP := Lib.hid (callsIn_wide (n := n - 1).2 (s_place h lim))
  rw [hh, hpm] at HP
  obtain ⟨U, hU⟩ : ∃ U, U = (L.take (pos sg lim L)) := ⟨_, rfl⟩
  rw [← hU] at hm
  have hsub : U <+: L := by rw [hU]; first | exact List.prefix_refl _ | exact List.take_prefix _ _
  obtain ⟨a, cap, hvv, hcap⟩ := own_slice h.own
  have c1 := h.c1.cell
  rw [hvv] at c1
  obtain ⟨N, hN⟩ : ∃ N, N = L.length := ⟨_, rfl⟩
  rw [← hN] at c1 hml hcap hln hvv
  have zs := cell_lt hBs
  have zl := cell_lt hBl
  have zb := cell_lt c1
  have b1 : (0 : Int) ≤ (m : Int) := by omega
  have b2 : (m : Int) ≤ (cap : Int) := by omega
  simp only [← hU] at hY ⊢
  have HY := Lib.hid hY
  have HAB := Lib.hid hab
  have HSUB := Lib.hid hsub
  have HM := Lib.hid hm
  have HH := Lib.hid h
  have HVV := Lib.hid hvv
  have HNN := Lib.hid hN
  clear hY hab hsub hm hU h hvv hN
  refine callsIn_of_wp Try.func45 rfl trivial ?_ rfl
  simp only [Try.ntmps45, List.size_toArray, List.length_cons, List.length_nil, Nat.reduceAdd, Nat.reduceSub, Array.replicate_succ, Array.replicate_zero, List.push_toArray, List.append_toArray, List.nil_append, List.cons_append]
  gi_wp2_with fail
  refine ⟨trivial, ?_⟩
  refine HP.out.mono ?_
  rintro e w' ⟨rfl, oP⟩
  have hBs' := oP.cell hBs id
  have c1' := oP.cell c1 id
  have zs' := cell_lt hBs'
  have zb' := cell_lt c1'
  clear HP
  gi_wp2
  gi_loopw [33] (fun s wr => ∃ (pre rest : List Lvl), U = pre ++ rest ∧ s = .int .i64 (pre.length : Nat) ∧ J pre wr ∧ KeepB (SdB b gu hv) W wr) (fun s _ => m - (intOf s).toNat)
  case atStart => exact ⟨[], U, rfl, rfl, HAB.out _ _ _ h0 oP.grown0, KeepB.only oP fun i hi => ⟨HH.out.blk i hi, id⟩⟩
  case round =>
    obtain ⟨pre, rest, hs, rfl, hJs, hk⟩ := hrel
    have hml2 : m = pre.length + rest.length := by rw [HM.out, hs, List.length_append]
    cases rest with
    | nil =>
      have e1 : pre.length = m := by rw [hml2]; rfl
      have hUp : U = pre := by rw [hs, List.append_nil]
      subst hUp
      rw [e1]
      have HJS := Lib.hid hJs
      clear e1 hs hml2 hJs hk
      gi_wp2
      go_end0
      exact ⟨⟨_, rfl⟩, .inl ⟨_, rfl, HJS.out⟩⟩
    | cons x t =>
      obtain ⟨p, hp⟩ : ∃ p, p = pre.length := ⟨_, rfl⟩
      have hpm2 : p < m := by rw [hml2, hp]; simp
      have hx : L[p]? = some x := by
        obtain ⟨r, hr⟩ := HSUB.out
        rw [← hr, hs, hp]; simp
      obtain ⟨g, cap', e, _, hg, v1, v2⟩ := HH.out.at_ hx
      rw [HVV.out, ← HNN.out] at e
      obtain ⟨rfl, rfl⟩ : a = some ⟨g, 0, none⟩ ∧ cap = cap' := by injection e with e1 e2 e3; exact ⟨e1, e3⟩
      have hgS : SdB b gu hv g := .inr (.inr (by rw [HVV.out]; rfl))
      have v1 := (v1.blk (hk g hgS)).cell
      have v2 := (v2.blk (hk g hgS)).cell
      have zg := cell_lt v1
      have t2 : decide (p < m) = true := by simpa using hpm2
      have i1 : (0 : Int) ≤ (p : Int) ∧ (p : Int) < (m : Int) := by omega
      have w1 : IntKind.i64.wrap ((p : Int) + 1) = (p : Int) + 1 := by rw [IntKind.wrap_i64]; omega
      have o1 := (Only.refl (fun _ => False) wr).alloc (.cells #[.int .i64 x.1, .int .i64 (x.2 : Nat)] 110)
      obtain ⟨fn, tmps, assign, body, hy, hR⟩ := HY.out pre x _ (HAB.out _ _ _ hJs o1.grown0) (by rw [← HM.out, ← hp]; exact hpm2)
      unfold encU at hy
      try dsimp only at hy
      have hkS : KeepB (SdB b gu hv) wr (wr.alloc (.cells #[.int .i64 x.1, .int .i64 (x.2 : Nat)] 110)) := KeepB.only o1 fun i hi => ⟨lt_of_blk (HH.out.blk i hi) (hk i hi), id⟩
      have HKS := Lib.hid hkS
      have HS := Lib.hid hs
      have HK := Lib.hid hk
      have HJS := Lib.hid hJs
      have HPP := Lib.hid hp
      rw [← hp]
      clear hs hk hJs hml2 hx e hgS hkS o1 hpm2 hp
      obtain ⟨xp, xr⟩ := x
      simp only at v1 v2 hy hR
      gi_wp2
      refine hR.mono ?_
      rintro e W3 (⟨rfl, hJ3, hk3⟩ | ⟨rfl, hJx3⟩)
      · gi_wp2
        go_roundw
        case rel => exact ⟨pre ++ [(xp, xr)], t, by rw [HS.out]; simp, by rw [List.length_append, ← HPP.out]; rfl, hJ3, (HK.out.trans HKS.out).trans hk3⟩
        case measure => simp [intOf]; omega
      · gi_wp2
        refine bodyPost_ret (results_none rfl _ _ _) rfl ?_
        exact ⟨⟨_, rfl⟩, .inr ⟨_, ⟨t, by rw [HS.out]; simp⟩, hJx3⟩⟩

/-- Upto's value gives the prices that are as good as the limit, the best first. -/
theorem upto_stops (n : Nat) (hn : 1 ≤ n) (w : World) (Bs Bl b gu most : Nat) (sg lim : Int) (hv : Value) (L : List Lvl) (hBs : w.cell? ⟨Bs, 0, none⟩ = some (.pointer (some ⟨b, 0, none⟩))) (hBl : w.cell? ⟨Bl, 0, none⟩ = some (.int .i64 lim)) (h : SideAt w b gu most sg hv L) :
    SeqStopsK Fence.wide n Try.prog 45 #[.pointer (some ⟨Bs, 0, none⟩), .pointer (some ⟨Bl, 0, none⟩)] encU (KeepB (SdB b gu hv)) (fun ys => ys = uptoL sg lim L) (fun pre => pre <+: uptoL sg lim L) (uptoL sg lim L).length w := fun l J Jx W hW hJ _ hY h0 => by
  have o : Only (fun _ => False) w W := Only.of_below hW
  have e1 := o.cell hBs id
  have e2 := o.cell hBl id
  have e3 : SideAt W b gu most sg hv L := SideU.only h o (fun _ _ => id)
  have hab : ∀ s A B, J s A → A.grownBy B none → J s B := fun s A B hs hg => hJ s A B none hs hg (fun r e => by cases e)
  by_cases h1 : lim = 0
  · have e : uptoL sg lim L = L := by unfold uptoL; rw [if_pos h1]
    rw [e] at hY ⊢
    exact upto_zero n hn l Bs Bl b gu most sg lim hv L h1 J Jx hab hY W e1 e2 e3 h0
  · cases h2 : has lim L with
    | true =>
      have e : uptoL sg lim L = L.take (pos sg lim L + 1) := by unfold uptoL; rw [if_neg h1, if_pos h2]
      rw [e] at hY ⊢
      exact upto_has n hn l Bs Bl b gu most sg lim hv L h1 h2 J Jx hab hY W e1 e2 e3 h0
    | false =>
      have e : uptoL sg lim L = L.take (pos sg lim L) := by unfold uptoL; rw [if_neg h1, if_neg (by rw [h2]; decide)]
      rw [e] at hY ⊢
      exact upto_no n hn l Bs Bl b gu most sg lim hv L h1 h2 J Jx hab hY W e1 e2 e3 h0

theorem s_upto (w : World) (b : Nat) (lim : Int) :
    Calls Try.prog 17 #[.pointer (some ⟨b, 0, none⟩), .int .i64 lim] w fun e w' => e = .returned (.func (.func 45) #[] #[.pointer (some ⟨w.heap.size, 0, none⟩), .pointer (some ⟨w.heap.size + 1, 0, none⟩)]) ∧ w' = (w.alloc (.cells #[.pointer (some ⟨b, 0, none⟩)] 25)).alloc (.cells #[.int .i64 lim] 2) := by
  go_enter Try.func17, Try.ntmps17
  go_wp2
  go_returns
  first | exact ⟨rfl, rfl⟩ | (simp; done)
end Go.Proofs.Ytkglplngnjgnhaa
