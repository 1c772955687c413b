/- LevelsDoes: upto: does Upto tell a list, whole, and left behind its first one. Conditions: a side as its New lays it, and the list of what Upto tells. -/
import Derived.Test.YtkglplngnjgnhaaRl4
import Derived.Laws.EntriesVeiled
namespace Go.Proofs.Ytkglplngnjgnhaa
set_option linter.unusedVariables false
set_option linter.unusedSimpArgs false
open Go.RowKit Go.Shelf
attribute [local go_sem] Oper.semAt_some

/-- A list of prices and rows, as it is read. -/
def WantU (w : World) (wa : Option Addr) (U : List Lvl) : Prop :=
  ∀ (j : Nat) (x : Lvl), U[j]? = some x → ∃ g, wa = some ⟨g, 0, none⟩ ∧ g < w.heap.size ∧ w.cell? ⟨g, j * 2, none⟩ = some (.int .i64 x.1) ∧ w.cell? ⟨g, j * 2 + 1, none⟩ = some (.int .i64 (x.2 : Nat))
theorem WantU.only {w w' : World} {wa : Option Addr} {U : List Lvl} (h : WantU w wa U) {S : Nat → Prop} (o : Only S w w') (hS : ∀ i, i < w.heap.size → ¬ S i) : WantU w' wa U := fun j x hx => by
  obtain ⟨g, h1, h2, h3, h4⟩ := h j x hx
  exact ⟨g, h1, Nat.lt_of_lt_of_le h2 o.size, o.cell h3 (hS g h2), o.cell h4 (hS g h2)⟩

/-- A round: what was told is the list's beginning; a counter lies in a box. -/
structure UI (Wc : World) (Bk : Nat) (U : List Lvl) (pre : List Lvl) (W : World) : Prop where
  pf : pre <+: U
  only : Only (· = Bk) Wc W
  ck : Cell W Bk 0 (.int .i64 (pre.length : Nat))
theorem UI.own {Wc : World} {B : Nat} {Bk : Nat} {U : List Lvl} (h0 : Wc.heap.size ≤ B) (h1 : Bk < B) : OwnFrom B (UI Wc Bk U) := fun pre X Y row h hg hr => by
  have hb : ∀ r, row = some r → B ≤ r := fun r e => (hr r e).1
  exact ⟨h.pf, h.only.grown hg (fun r e => Nat.le_trans h0 (hb r e)), h.ck.grown hg (fun r e => Nat.lt_of_lt_of_le h1 (hb r e))⟩
/-- The loop that is left early: nothing has been told. -/
def UE (Wc : World) (pre : List Lvl) (W : World) : Prop := pre = [] ∧ Only (fun _ => False) Wc W
theorem UE.own {Wc : World} {B : Nat} (h0 : Wc.heap.size ≤ B) : OwnFrom B (UE Wc) := fun pre X Y row h hg hr => ⟨h.1, h.2.grown hg (fun r e => Nat.le_trans h0 (hr r e).1)⟩
/-- It was left, with this result. -/
def UX (Wc : World) (Bres : Nat) (y0 : Int) (c : Code) (pre : List Lvl) (W : World) : Prop := ∃ x : Lvl, pre = [x] ∧ c = .ret ∧ Cell W Bres 0 (.bool (x.1 == y0)) ∧ Only (· = Bres) Wc W
theorem UX.own {Wc : World} {B Bres : Nat} {y0 : Int} (c : Code) (h0 : Wc.heap.size ≤ B) (h1 : Bres < B) : OwnFrom B (UX Wc Bres y0 c) := fun pre X Y row h hg hr => by
  obtain ⟨x, e1, e2, h3, h4⟩ := h
  exact ⟨x, e1, e2, h3.grown hg (fun r e => Nat.lt_of_lt_of_le h1 (hr r e).1), h4.grown hg (fun r e => Nat.le_trans h0 (hr r e).1)⟩
theorem next_of {U pre : List Lvl} (h : pre <+: U) (hl : pre.length < U.length) : ∃ y, U[pre.length]? = some y ∧ pre ++ [y] <+: U ∧ ∀ z, z ≠ y → ¬ pre ++ [z] <+: U := by
  obtain ⟨t, rfl⟩ := h
  cases t with
  | nil => simp at hl
  | cons y s =>
    refine ⟨y, by simp, ⟨s, by simp⟩, fun z hz hp => ?_⟩
    obtain ⟨s', hs⟩ := hp
    rw [List.append_assoc] at hs
    have := List.append_cancel_left hs
    simp at this
    exact hz this.1
theorem uptoL_len (sg lim : Int) (L : List Lvl) : (uptoL sg lim L).length ≤ L.length := by
  unfold uptoL
  split
  · exact Nat.le_refl _
  · split <;> exact List.length_take_le' _ _
/-- The frame of upto: its boxes, the items in hand. -/
def uFrame (B : Nat) (x9 x10 x11 : Value) (u : Nat → Value) : Array Value := #[u 0, u 1, u 2, u 3, u 4, .pointer (some ⟨B, 0, none⟩), .pointer (some ⟨B + 1, 0, none⟩), u 7, .pointer (some ⟨B + 1 + 1 + 1 + 1, 0, none⟩), x9, x10, x11, u 12, u 13, u 14, u 15, u 16, u 17, u 18, u 19, u 20, u 21, u 22, u 23, u 24, u 25, u 26, u 27, u 28, u 29, u 30, u 31, u 32, u 33, u 34, u 35, u 36, u 37, u 38, u 39, u 40, u 41, u 42, u 43, u 44, u 45, u 46, u 47, u 48, u 49, u 50, u 51, u 52, u 53, u 54, u 55, u 56, u 57, u 58, u 59, u 60, u 61]
theorem uF.of {a : Act} {B : Nat} {x9 x10 x11 : Value} {ds : List Deferred} (e : a = { tmps := uFrame B x9 x10 x11 (fun i => a.tmps.toList.getD i undef), defers := ds }) : ∃ x11 u, a = { tmps := uFrame B x9 x10 x11 u, defers := ds } := ⟨_, _, e⟩
theorem uF.of2 {a : Act} {B : Nat} {x9 x10 x11 : Value} {ds : List Deferred} (e : a = { tmps := uFrame B x9 x10 x11 (fun i => a.tmps.toList.getD i undef), defers := ds }) : ∃ x9 x10 u, a = { tmps := uFrame B x9 x10 x11 u, defers := ds } := ⟨_, _, _, e⟩

set_option maxHeartbeats 8000000 in
set_option maxRecDepth 100000 in
theorem l_upto (w : World) (b gu most : Nat) (sg : Int) (hv : Value) (L : List Lvl) (h : SideAt w b gu most sg hv L) (lim : Int) (U : List Lvl) (hU : U = uptoL sg lim L)
    (wa : Option Addr) (n cap : Nat) (hn : n = U.length) (hcap : n ≤ cap) (hw : WantU w wa U) :
    Calls Try.prog 52 #[.pointer (some ⟨b, 0, none⟩), .int .i64 lim, .slice wa n cap] w fun e w' => e = .returned (.bool true) ∧ Only (fun _ => False) w w' := by
  have hfn : ∀ (W : World) (x y : Array Value), (binOp BinOp.eql 39 (.func (.func 45) x y) .nilFunc).run Try.prog W = .ok (.bool false) W := fun W x y => by kernel_rfl
  have hsm : n ≤ 128 := by
    have h1 := uptoL_len sg lim L
    have h2 := h.len
    have h3 := h.small
    rw [hn, hU]; omega
  have hblk : ∀ i, SdB b gu hv i → i < w.heap.size := fun i hi => h.blk i hi
  have HH := Lib.hid h
  have HU := Lib.hid hU
  have HN := Lib.hid hn
  have HW := Lib.hid hw
  clear h hn hU hw
  refine callsIn_wide.1 (callsIn_of_wp_marks (n := 14) Try.func52 rfl trivial (wpIn_wide.2 ?_) rfl)
  simp only [Try.ntmps52, List.size_toArray, List.length_cons, List.length_nil, Nat.reduceAdd, Nat.reduceSub, Array.replicate_succ, Array.replicate_zero, List.push_toArray, List.append_toArray, List.nil_append, List.cons_append]
  have HBL := Lib.hid hblk
  clear hblk
  go_wp2_with fail
  refine (s_upto _ b lim).mono ?_
  rintro e w1 ⟨rfl, rfl⟩
  go_wp2_with fail
  have hblk := HBL.out
  have a0 := (((((Cell.new (w := w) (cs := #[.slice wa n cap]) (t := 113) (o := 0) rfl).alloc (.cells #[.bool false] 4)).alloc (.cells #[.pointer (some ⟨b, 0, none⟩)] 25)).alloc (.cells #[.int .i64 lim] 2)).alloc (.cells #[.int .i64 0] 3))
  have a1 := ((((Cell.new (w := (w.alloc (.cells #[.slice wa n cap] 113))) (cs := #[.bool false]) (t := 4) (o := 0) rfl).alloc (.cells #[.pointer (some ⟨b, 0, none⟩)] 25)).alloc (.cells #[.int .i64 lim] 2)).alloc (.cells #[.int .i64 0] 3))
  have a2 := (((Cell.new (w := ((w.alloc (.cells #[.slice wa n cap] 113)).alloc (.cells #[.bool false] 4))) (cs := #[.pointer (some ⟨b, 0, none⟩)]) (t := 25) (o := 0) rfl).alloc (.cells #[.int .i64 lim] 2)).alloc (.cells #[.int .i64 0] 3))
  have a3 := ((Cell.new (w := (((w.alloc (.cells #[.slice wa n cap] 113)).alloc (.cells #[.bool false] 4)).alloc (.cells #[.pointer (some ⟨b, 0, none⟩)] 25))) (cs := #[.int .i64 lim]) (t := 2) (o := 0) rfl).alloc (.cells #[.int .i64 0] 3))
  have a4 := (Cell.new (w := ((((w.alloc (.cells #[.slice wa n cap] 113)).alloc (.cells #[.bool false] 4)).alloc (.cells #[.pointer (some ⟨b, 0, none⟩)] 25)).alloc (.cells #[.int .i64 lim] 2))) (cs := #[.int .i64 0]) (t := 3) (o := 0) rfl)
  have oc := ((((((Only.refl (fun _ => False) w).alloc (.cells #[.slice wa n cap] 113)).alloc (.cells #[.bool false] 4)).alloc (.cells #[.pointer (some ⟨b, 0, none⟩)] 25)).alloc (.cells #[.int .i64 lim] 2)).alloc (.cells #[.int .i64 0] 3))
  obtain ⟨Wc, hWc⟩ : ∃ Wc, (((((w.alloc (.cells #[.slice wa n cap] 113)).alloc (.cells #[.bool false] 4)).alloc (.cells #[.pointer (some ⟨b, 0, none⟩)] 25)).alloc (.cells #[.int .i64 lim] 2)).alloc (.cells #[.int .i64 0] 3)) = Wc := ⟨_, rfl⟩
  have sWc : Wc.heap.size = w.heap.size + 1 + 1 + 1 + 1 + 1 := by rw [← hWc]; simp only [World.size_alloc]
  simp only [World.size_alloc] at a1 a2 a3 a4
  rw [hWc] at a0 a1 a2 a3 a4 oc ⊢
  clear hWc
  obtain ⟨B, hB⟩ : ∃ B, w.heap.size = B := ⟨_, rfl⟩
  simp only [hB] at a0 a1 a2 a3 a4 sWc hblk ⊢
  have LWc := SideU.only HH.out oc (fun _ _ => id)
  have WWc := HW.out.only oc (fun _ _ => id)
  have kput : ∀ i, SdB b gu hv i → i < Wc.heap.size := fun i hi => by have := hblk i hi; omega
  have eK : B + 1 + 1 + 1 + 1 = B + 4 := rfl
  refine (wpIn_wide (n := 14)).1 ?_
  refine wpIn_rangeFunc_ownH rfl (by decide) (gf := 45) (lb := #[.pointer (some ⟨B + 1 + 1, 0, none⟩), .pointer (some ⟨B + 1 + 1 + 1, 0, none⟩)]) rfl trivial (enters_of Try.func45 (by kernel_rfl) rfl)
    (upto_stops 13 (by decide) Wc (B + 1 + 1) (B + 1 + 1 + 1) b gu most sg lim hv L a2.cell a3.cell LWc)
    KeepB.trans (KeepB.put kput) (Below.refl _ _) (fun _ => rfl)
    (UI Wc (B + 1 + 1 + 1 + 1) U) (fun _ pre _ => ¬ pre <+: U)
    (UI.own (Nat.le_refl _) (by omega)) (fun _ _ _ _ _ h _ _ => h) ⟨List.nil_prefix, Only.refl _ _, a4⟩
    (fun x a' _ => ∃ x11 u, a' = { tmps := uFrame B (.int .i64 x.1) (.int .i64 (x.2 : Nat)) x11 u, defers := [] })
    (fun _ _ _ _ _ _ hs _ _ => hs)
    ?assign ?body ?done ?stop
  case assign =>
    intro l pre x W K hi hK
    unfold encU
    gi_wp2
    exact hK _ _ (KeepsFrom.refl _ _) (KeepB.refl _ _) hi (uF.of (x11 := undef) (by kernel_rfl))
  case stop => exact fun D c pre W' _ h1 h2 _ => absurd (HU.out ▸ h1) h2
  case body =>
    intro l pre x a' W hl hrec hI hA hlen
    obtain ⟨x11, u, rfl⟩ := hA
    obtain ⟨xp, xr⟩ := x
    rw [← HU.out] at hlen
    obtain ⟨⟨yp, yr⟩, hy, hp, hno⟩ := next_of hI.pf hlen
    have f0 := (a0.only hI.only (by show ¬ (B = B + 1 + 1 + 1 + 1); omega)).cell
    have r1 := a1.only hI.only (by show ¬ (B + 1 = B + 1 + 1 + 1 + 1); omega)
    have f1 := r1.cell
    have f1' := r1.free
    have f5 := hI.ck.cell
    have f5' := hI.ck.free
    have hsz := hI.only.size
    obtain ⟨g, eg, hg, wn, wv⟩ := HW.out pre.length _ hy
    have wn := hI.only.cell (oc.cell wn id) (by show ¬ (g = B + 1 + 1 + 1 + 1); omega)
    have wv := hI.only.cell (oc.cell wv id) (by show ¬ (g = B + 1 + 1 + 1 + 1); omega)
    simp only at wn wv
    subst eg
    have zg : g < W.heap.size := by omega
    have z0 := cell_lt f0
    have z1 := cell_lt f1
    have z5 := cell_lt f5
    obtain ⟨p, hpp⟩ : ∃ p, p = pre.length := ⟨_, rfl⟩
    rw [← hpp] at f5 wn wv
    have hpn : p < n := by rw [hpp, HN.out]; exact hlen
    have ip : (0 : Int) ≤ (p : Int) ∧ (p : Int) < (n : Int) := by omega
    have tp : decide (n ≤ p) = false := by simp; omega
    have tp' : decide ((n : Int) ≤ (p : Int)) = false := by simp; omega
    have w1 : IntKind.i64.wrap ((p : Int) + 1) = (p : Int) + 1 := by rw [IntKind.wrap_i64]; omega
    have HI := Lib.hid hI
    have HP := Lib.hid hp
    have HNO := Lib.hid hno
    have HPP := Lib.hid hpp
    clear hI hp hno hpp r1 a0 a1 a2 a3 a4 hy hrec
    have bad : ∀ (v : Value), xp ≠ yp ∨ xr ≠ yr → ownPostG (B + 1 + 1 + 1 + 1 + 1) (KeepB (SdB b gu hv)) (UI Wc (B + 1 + 1 + 1 + 1) U) (fun _ pre _ => ¬ pre <+: U) (pre ++ [(xp, xr)]) W .ret { tmps := #[], defers := [] } (W.setCell ⟨B + 1, 0, none⟩ v) := fun v hx =>
      ⟨keepsFrom_of_only (T := (· = B + 1)) ((Only.refl (· = B + 1) W).setCell (p := ⟨B + 1, 0, none⟩) (.inl rfl) _) (fun i e => by omega), HNO.out _ (fun e => by injection e with e1 e2; rcases hx with hx | hx; exact hx e1; exact hx e2)⟩
    have BAD := Lib.hid bad
    clear bad
    by_cases h1 : xp = yp
    · subst h1
      have t2 : (xp != xp) = false := by simp
      by_cases h2 : xr = yr
      · subst h2
        have t3 : (xr != xr) = false := by simp
        have t3' : ((xr : Int) != (xr : Int)) = false := by simp
        have ho : Only (· = B + 1 + 1 + 1 + 1) W (W.setCell ⟨B + 1 + 1 + 1 + 1, 0, none⟩ (.int .i64 ((p : Int) + 1))) := (Only.refl (· = B + 1 + 1 + 1 + 1) W).setCell (.inl rfl) _
        have HO := Lib.hid ho
        have cks : Cell (W.setCell ⟨B + 1 + 1 + 1 + 1, 0, none⟩ (.int .i64 ((p : Int) + 1))) (B + 1 + 1 + 1 + 1) 0 (.int .i64 ((p : Int) + 1)) := HI.out.ck.set _
        have HCK := Lib.hid cks
        clear ho cks
        dsimp only [uFrame]
        gi_wp2
        refine ⟨keepsFrom_of_only HO.out (fun i e => by omega), KeepB.only HO.out (fun i hi => ⟨by have := kput i hi; omega, ?_⟩), ⟨HP.out, HI.out.only.trans HO.out, ?_⟩⟩
        · have := hblk i hi; show ¬ (i = B + 1 + 1 + 1 + 1); omega
        · rw [List.length_append, ← HPP.out]; exact HCK.out
      · have t3 : (xr != yr) = true := by simpa using h2
        have t3' : ((xr : Int) != (yr : Int)) = true := by simp; omega
        dsimp only [uFrame]
        gi_wp2
        exact BAD.out _ (.inr h2)
    · have t2 : (xp != yp) = true := by simpa using h1
      dsimp only [uFrame]
      gi_wp2
      exact BAD.out _ (.inl h1)
  case done =>
    intro D xs W hD hxs hI hdd
    rw [← HU.out] at hxs
    subst hxs
    have f0 := (a0.only hI.only (by show ¬ (B = B + 1 + 1 + 1 + 1); omega)).cell
    have r1 := a1.only hI.only (by show ¬ (B + 1 = B + 1 + 1 + 1 + 1); omega)
    have f2 := (a2.only hI.only (by show ¬ (B + 1 + 1 = B + 1 + 1 + 1 + 1); omega)).cell
    have f3 := (a3.only hI.only (by show ¬ (B + 1 + 1 + 1 = B + 1 + 1 + 1 + 1); omega)).cell
    have f5 := hI.ck.cell
    rw [← HN.out] at f5
    have z0 := cell_lt f0
    have z5 := cell_lt f5
    have t6 : (n != n) = false := by simp
    have t6' : ((n : Int) != (n : Int)) = false := by simp
    have LW := SideU.only LWc hI.only (fun i hi => by have := hblk i hi; show ¬ (i = B + 1 + 1 + 1 + 1); omega)
    have kput3 : ∀ i, SdB b gu hv i → i < W.heap.size := fun i hi => by have := kput i hi; have := hI.only.size; omega
    have oW : Only (fun _ => False) w W := oc.trans' hI.only (fun i hi e => by omega)
    have ww := HW.out.only oW (fun _ _ => id)
    have HWW := Lib.hid ww
    have HOW := Lib.hid oW
    have HR1 := Lib.hid r1
    have HLW := Lib.hid LW
    have HDD := Lib.hid hdd
    clear hI r1 LW hdd oW ww a0 a1 a2 a3 a4
    obtain ⟨y0, hy0⟩ : ∃ y0, y0 = (xs.headD (0, 0)).1 := ⟨_, rfl⟩
    have HY0 := Lib.hid hy0
    clear hy0
    go_wp2_with fail
    refine (wpIn_wide (n := 14)).1 ?_
    refine wpIn_rangeFunc_ownH rfl (by decide) (gf := 45) (lb := #[.pointer (some ⟨B + 1 + 1, 0, none⟩), .pointer (some ⟨B + 1 + 1 + 1, 0, none⟩)]) rfl trivial (enters_of Try.func45 (by kernel_rfl) rfl)
      (upto_stops 13 (by decide) W (B + 1 + 1) (B + 1 + 1 + 1) b gu most sg lim hv L f2 f3 HLW.out)
      KeepB.trans (KeepB.put kput3) (Below.refl _ _) (fun _ => rfl)
      (UE W) (UX W (B + 1) y0) (UE.own (Nat.le_refl _)) (fun c => UX.own c (Nat.le_refl _) (by omega)) ⟨rfl, Only.refl _ _⟩
      (fun x a' _ => ∃ x9 x10 u, a' = { tmps := uFrame B x9 x10 (.int .i64 x.1) u, defers := [] })
      (fun _ _ _ _ _ _ hs _ _ => hs)
      ?assign3 ?body3 ?done3 ?stop3
    case assign3 =>
      intro l pre x W' K hi hK
      unfold encU
      gi_wp2
      exact hK _ _ (KeepsFrom.refl _ _) (KeepB.refl _ _) hi (uF.of2 (x9 := undef) (x10 := undef) (by kernel_rfl))
    case body3 =>
      intro l pre x a' W' hl hrec hI hA hlen
      rw [← HU.out] at hlen
      obtain ⟨x9, x10, u, rfl⟩ := hA
      obtain ⟨rfl, oE⟩ := hI
      have f0 := oE.cell f0 id
      have r1' := HR1.out.only oE id
      have f1 := r1'.cell
      have f1' := r1'.free
      have hn0 : 0 < n := by rw [HN.out]; simpa using hlen
      obtain ⟨m, hm⟩ : ∃ m, xs[0]? = some m := ⟨_, List.getElem?_eq_getElem (by rw [← HN.out]; exact hn0)⟩
      have hm2 : xs.headD (0, 0) = m := by cases xs with | nil => simp at hm | cons y t => simpa using hm
      obtain ⟨g, eg, hg, wn, wv⟩ := HWW.out 0 m hm
      have wn := oE.cell wn id
      subst eg
      have zg := cell_lt wn
      have z0 := cell_lt f0
      have z1 := cell_lt f1
      have t1 : decide ((0 : Int) < (n : Int)) = true := by simp; omega
      have t1' : decide (0 < n) = true := by simp; omega
      have i0 : (0 : Int) < (n : Int) := by omega
      simp only [Nat.zero_mul] at wn
      have HM2 := Lib.hid hm2
      have HOE := Lib.hid oE
      have HR1' := Lib.hid r1'
      obtain ⟨mp, mr⟩ := m
      simp only at wn
      clear hm hm2 oE r1' wv hrec hlen
      dsimp only [uFrame]
      gi_wp2
      exact ⟨keepsFrom_of_only (T := (· = B + 1)) ((Only.refl (· = B + 1) W').setCell (p := ⟨B + 1, 0, none⟩) (.inl rfl) _) (fun i e => by omega), x, rfl, rfl, by rw [HY0.out, HM2.out]; exact HR1'.out.set _, (Only.of_none (S := (· = B + 1)) HOE.out).setCell (.inl rfl) _⟩
    case done3 =>
      intro D' ys W' hD' hxs hI hdd'
      rw [← HU.out] at hxs
      subst hxs
      obtain ⟨e0, oE⟩ := hI
      have e2 : n = 0 := by rw [HN.out, e0]; rfl
      subst e2
      have f0 := oE.cell f0 id
      have r1' := HR1.out.only oE id
      have f1 := r1'.cell
      have f1' := r1'.free
      have z0 := cell_lt f0
      have z1 := cell_lt f1
      have HOE := Lib.hid oE
      have HR1' := Lib.hid r1'
      have HDD' := Lib.hid hdd'
      clear e0 oE r1' hdd'
      go_wp2_with fail
      refine leaves_marks [D', D] _ (by have := (Array.getElem?_eq_some_iff.1 HDD.out).1; simp; omega) (fun E hE => ?_) (fun w' ho' => ?_)
      · have hlt := (Array.getElem?_eq_some_iff.1 HDD'.out).1
        have hlt2 := (Array.getElem?_eq_some_iff.1 HDD.out).1
        simp only [List.mem_cons, List.mem_nil_iff, or_false] at hE
        rcases hE with e | e
        · subst e; rw [Below.heap_setCell _ _ _ _ (by show E ≠ B + 1; omega)]; exact HDD'.out
        · subst e; rw [Below.heap_setCell _ _ _ _ (by show E ≠ B + 1; omega)]; exact (HOE.out.block E hlt2 id).trans HDD.out
      · have hc := ((HR1'.out.set (.bool true)).only ho' (fun hD => by simp only [List.mem_cons, List.mem_nil_iff, or_false] at hD; omega)).cell
        refine ⟨.bool true, ?_, rfl, ?_⟩
        · simp [results, Try.f52, go_sem, hc]
        · exact ((HOW.out.trans HOE.out).setCell (.inr (by show w.heap.size ≤ B + 1; omega)) _).trans' ho' (fun i hi hD => by simp only [List.mem_cons, List.mem_nil_iff, or_false] at hD; omega)
    case stop3 =>
      intro D' c pre W' hD' hsp hx hdd'
      obtain ⟨x, rfl, rfl, c1, o1⟩ := hx
      rw [← HU.out] at hsp
      have hx0 : x.1 = y0 := by
        rw [HY0.out]
        obtain ⟨t, ht⟩ := hsp
        cases xs with
        | nil => simp at ht
        | cons y s => simp at ht; rw [ht.1]; rfl
      rw [hx0] at c1
      simp only [beq_self_eq_true] at c1
      refine wpIn_wide.2 ?_
      go_wp2_with fail
      refine leaves_marks [D', D] _ (by have := (Array.getElem?_eq_some_iff.1 HDD.out).1; simp; omega) (fun E hE => ?_) (fun w' ho' => ?_)
      · have hlt2 := (Array.getElem?_eq_some_iff.1 HDD.out).1
        simp only [List.mem_cons, List.mem_nil_iff, or_false] at hE
        rcases hE with e | e
        · subst e; exact hdd'
        · subst e; exact (o1.block E hlt2 (by show ¬ (E = B + 1); omega)).trans HDD.out
      · have hc := (c1.only ho' (fun hD => by simp only [List.mem_cons, List.mem_nil_iff, or_false] at hD; omega)).cell
        refine ⟨.bool true, ?_, rfl, ?_⟩
        · simp [results, Try.f52, go_sem, hc]
        · exact (HOW.out.trans' o1 (fun i hi e => by omega)).trans' ho' (fun i hi hD => by simp only [List.mem_cons, List.mem_nil_iff, or_false] at hD; omega)
end Go.Proofs.Ytkglplngnjgnhaa
