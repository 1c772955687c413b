/- Levels: Add and Drop where they turn the side; Find, At, Best, Len, Better; New. Conditions: a side as its New lays it. -/
import Derived.Test.YtkglplngnjgnhaaLv7
namespace Go.Proofs.Ytkglplngnjgnhaa
set_option linter.unusedVariables false
set_option linter.unusedSimpArgs false
open Go.RowKit

/-- A side is another one. -/
def SdPost (b gu most : Nat) (sg : Int) (hv : Value) (L' : List (Int × Nat)) (w : World) (v : Value) (e : Ending) (w' : World) : Prop :=
  ∃ hv', e = .returned v ∧ SideAt w' b gu most sg hv' L' ∧ Only (SdB b gu hv) w w' ∧ (hv'.ownBlock = hv.ownBlock ∨ ∃ g, hv'.ownBlock = some g ∧ w.heap.size ≤ g)

section
variable {w : World} {b gu most : Nat} {sg : Int} {hv : Value} {L : List (Int × Nat)}

theorem row_put {p : Int} {r : Nat} : ∀ n, n < most → (fun k => if k = r then true else rowB L k) n = rowB (put sg p r L) n := fun n _ => by
  show (if n = r then true else rowB L n) = _
  unfold rowB
  rw [Bool.eq_iff_iff]
  simp only [decide_eq_true_eq, List.mem_map]
  by_cases e : n = r
  · subst e
    simp only [if_pos, true_iff]
    exact ⟨(p, n), put_mem.2 (.inl rfl), rfl⟩
  · rw [if_neg e]
    simp only [decide_eq_true_eq, List.mem_map]
    constructor
    · rintro ⟨x, hx, rfl⟩
      exact ⟨x, put_mem.2 (.inr hx), rfl⟩
    · rintro ⟨x, hx, rfl⟩
      rcases put_mem.1 hx with rfl | hx
      · exact absurd rfl e
      · exact ⟨x, hx, rfl⟩

set_option maxHeartbeats 4000000 in
set_option maxRecDepth 100000 in
theorem s_add (h : SideAt w b gu most sg hv L) (p : Int) (h1 : 1 ≤ p) (h2 : p ≤ 1000000000) (hp : has p L = false) (r : Nat) (hr : r < most) (hn : r ∉ L.map Prod.snd) (hmin : ∀ k, k < r → k ∈ L.map Prod.snd) (hl : L.length < most) :
    Calls Try.prog 11 #[.pointer (some ⟨b, 0, none⟩), .int .i64 p] w (SdPost b gu most sg hv (put sg p r L) w (.tuple #[.int .i64 (r : Nat), .int .i64 0])) := by
  have HP := Lib.hid (s_place h p)
  rw [hp] at HP
  have HI := fun W (o : Only (fun _ => False) w W) => Lib.hid (s_index (SideU.only h o (fun _ _ => id)) r hr hn hmin)
  have HH := Lib.hid h
  have hsm := h.small
  have hpl := pos_le sg p L
  have HSRT := Lib.hid (srt_put (r := r) h.hsg h.srt hp)
  have HND := Lib.hid (nodup_put (sg := sg) (p := p) (r := r) h.nd hn)
  obtain ⟨k, hk⟩ : ∃ k, k = pos sg p L := ⟨_, rfl⟩
  have hcells : lvV (put sg p r L) = (lvV L).take (k * 2) ++ [.int .i64 p, .int .i64 (r : Int)] ++ (lvV L).drop (k * 2) := by
    unfold put
    rw [lvV_append, lvV_append, lvV_take, lvV_drop, ← hk]; rfl
  rw [← hk] at HP hpl
  have HC := Lib.hid hcells
  have t1 : decide (p < 1) = false := by simp; omega
  have t2 : decide (1000000000 < p) = false := by simp; omega
  have ir : (0 : Int) ≤ (r : Int) ∧ (r : Int) < (most : Int) := by omega
  clear h hp hn hmin hk hcells
  go_enter Try.func11, Try.ntmps11
  go_wp2_with fail
  refine HP.out.mono ?_
  rintro e w1 ⟨rfl, o1⟩
  have H1 := SideU.only HH.out o1 (fun _ _ => id)
  have c2 := H1.c2.cell
  have zl := H1.gul
  have zb := cell_lt c2
  have u := (H1.us r hr).cell
  have uf := (H1.us r hr).free
  have M1 := H1.mark r true
  have M2 := SideU.only M1 ((Only.refl (fun _ => False) _).alloc (.cells #[.int .i64 p, .int .i64 (r : Int)] 110)) (fun _ _ => id)
  have hnew := heap_alloc_new (w1.setCell ⟨gu, r, none⟩ (.bool true)) (.cells #[.int .i64 p, .int .i64 (r : Int)] 110)
  rw [World.size_setCell] at hnew
  have HINS := Lib.hid (lv_insert _ hv L.length k (lvV L) M2.own (by omega) hpl (lvV_one L) w1.heap.size (.int .i64 p) (.int .i64 (r : Int)) hnew rfl rfl (fun e => by have := (H1.own.lt _ e).2; omega))
  obtain ⟨a, cap, hvv, hcap⟩ := own_slice H1.own
  have hv1 := M1.c1.cell
  rw [hvv] at hv1 HINS
  have M2' := Lib.hid M2
  have HVV := Lib.hid hvv
  have O1 := Lib.hid o1
  have ne1 : ¬ gu = b := fun e => H1.ne e.symm
  have hsz : (w1.setCell ⟨gu, r, none⟩ (.bool true)).heap.size = w1.heap.size := World.size_setCell ..
  clear HP M1 M2 hnew H1 hvv o1
  go_wp2_with fail
  refine (HI w1 O1.out).out.mono ?_
  rintro e w2 ⟨rfl, rfl⟩
  clear HI
  go_wp2_with fail
  refine HINS.out.mono ?_
  intro e w3 hpost
  obtain ⟨v', rfl, hown, hgr, hloc⟩ := hpost
  obtain ⟨a', cap', rfl, hcap'⟩ := own_slice hown
  have o3 : Only (fun i => hv.ownBlock = some i) _ w3 := Only.of_grown hgr (fun q e => by rw [HVV.out]; exact e)
  have hR := SideU.row M2'.out (L' := put sg p r L) (U' := rowB (put sg p r L)) o3 (by rw [put_len, HC.out]; exact hown) (by
    rw [HVV.out]
    rcases hloc with e | e
    · exact .inl e
    · exact .inr ⟨_, e, Nat.le_refl _⟩) row_put HSRT.out HND.out (fun x hx => by
      rcases put_mem.1 hx with rfl | hx
      · exact hr
      · exact HH.out.lt x hx) (fun x hx => by
      rcases put_mem.1 hx with rfl | hx
      · exact ⟨h1, h2⟩
      · exact HH.out.pr x hx) (by rw [put_len]; omega)
  have sb : ¬ hv.ownBlock = some b := fun e => (HH.out.sep b e).1 rfl
  have k1 := M2'.out.c1.only o3 sb
  have k1c := k1.cell
  have k1f := k1.free
  rw [HVV.out] at k1c
  have HR := Lib.hid hR
  clear hown hgr hloc o3 hR sb k1 HINS
  go_wp2_with fail
  go_returns
  refine ⟨_, rfl, HR.out.1, ?_, ?_⟩
  · have q1 : Only (SdB b gu hv) w (w1.setCell ⟨gu, r, none⟩ (.bool true)) := (Only.of_none O1.out).setCell (.inl (.inr (.inl rfl))) _
    exact (q1.alloc _).trans HR.out.2.1
  · rcases HR.out.2.2 with e | ⟨g, e, hg⟩
    · exact .inl e
    · have := O1.out.size
      simp only [World.size_alloc, World.size_setCell] at hg
      exact .inr ⟨g, e, by omega⟩

theorem cut_cells (k : Nat) (L : List (Int × Nat)) : lvV (cutAt k L) = (lvV L).take (k * 2) ++ (lvV L).drop ((k + 1) * 2) := by
  unfold cutAt
  rw [lvV_append, lvV_take, lvV_drop]
theorem cut_len {k : Nat} {L : List (Int × Nat)} (hk : k < L.length) : (cutAt k L).length = L.length - 1 := by
  unfold cutAt
  simp
  omega
theorem row_cut {k : Nat} {x : Int × Nat} {L : List (Int × Nat)} (hn : (L.map Prod.snd).Nodup) (hx : L[k]? = some x) (n : Nat) : (if n = x.2 then false else rowB L n) = rowB (cutAt k L) n := by
  have hk := (List.getElem?_eq_some_iff.1 hx).1
  have hsplit : L = L.take k ++ x :: L.drop (k + 1) := by
    have h1 := List.take_append_drop k L
    rw [List.drop_eq_getElem_cons hk, (List.getElem?_eq_some_iff.1 hx).2] at h1
    exact h1.symm
  rw [hsplit, List.map_append, List.map_cons] at hn
  have hn2 := List.nodup_append.1 hn
  have hn3 := List.nodup_cons.1 hn2.2.1
  unfold rowB
  rw [Bool.eq_iff_iff]
  have hm : n ∈ L.map Prod.snd ↔ n = x.2 ∨ n ∈ (cutAt k L).map Prod.snd := by
    conv => lhs; rw [hsplit]
    unfold cutAt
    simp only [List.map_append, List.map_cons, List.mem_append, List.mem_cons]
    constructor
    · rintro (h | h | h)
      · exact .inr (.inl h)
      · exact .inl h
      · exact .inr (.inr h)
    · rintro (h | h | h)
      · exact .inr (.inl h)
      · exact .inl h
      · exact .inr (.inr h)
  have hx2 : x.2 ∉ (cutAt k L).map Prod.snd := by
    unfold cutAt
    rw [List.map_append, List.mem_append]
    rintro (h | h)
    · exact hn2.2.2 _ h _ (by simp) rfl
    · exact hn3.1 h
  by_cases e : n = x.2
  · rw [if_pos e]
    subst e
    simp only [Bool.false_eq_true, decide_eq_true_eq, false_iff]
    exact hx2
  · rw [if_neg e]
    simp only [decide_eq_true_eq]
    rw [hm]
    exact ⟨fun h => h.resolve_left e, .inr⟩

theorem s_drop_no (h : SideAt w b gu most sg hv L) (p : Int) (hp : has p L = false) :
    Calls Try.prog 12 #[.pointer (some ⟨b, 0, none⟩), .int .i64 p] w fun e w' => e = .returned (.int .i64 51) ∧ Only (fun _ => False) w w' := by
  have HP := Lib.hid (s_place h p)
  rw [hp] at HP
  generalize pos sg p L = k at *
  clear h hp
  go_enter Try.func12, Try.ntmps12
  go_wp2_with fail
  refine HP.out.mono ?_
  rintro e w1 ⟨rfl, o1⟩
  go_wp2_with fail
  go_returns
  exact ⟨rfl, o1⟩

set_option maxHeartbeats 4000000 in
set_option maxRecDepth 100000 in
theorem s_drop (h : SideAt w b gu most sg hv L) (p : Int) (k : Nat) (hk : k = pos sg p L) (r : Nat) (hx : L[k]? = some (p, r)) :
    Calls Try.prog 12 #[.pointer (some ⟨b, 0, none⟩), .int .i64 p] w (SdPost b gu most sg hv (cutAt k L) w (.int .i64 0)) := by
  have hp : has p L = true := (has_at h.hsg h.srt).2 ⟨(p, r), by rw [← hk]; exact hx, rfl⟩
  have HP := Lib.hid (s_place h p)
  rw [hp, ← hk] at HP
  have hkl := (List.getElem?_eq_some_iff.1 hx).1
  have hrm : r < most := h.lt (p, r) (List.mem_of_getElem? hx)
  have HH := Lib.hid h
  have hsm := h.small
  have hln := h.len
  have hsub := cut_sub k L
  have HSRT := Lib.hid (List.Pairwise.sublist hsub h.srt)
  have HND := Lib.hid (h.nd.sublist (hsub.map Prod.snd))
  have HSUB := Lib.hid hsub
  have HROW := Lib.hid (row_cut h.nd hx)
  have HX := Lib.hid hx
  obtain ⟨n, hn⟩ : ∃ n, n = L.length := ⟨_, rfl⟩
  have hkn : k < n := by omega
  have hnm : n ≤ 128 := by omega
  have ir : (0 : Int) ≤ (r : Int) ∧ (r : Int) < (most : Int) := by omega
  have ik : (0 : Int) ≤ (k : Int) ∧ (k : Int) < (n : Int) := by omega
  have wk : IntKind.i64.wrap ((k : Int) + 1) = (k : Int) + 1 := by rw [IntKind.wrap_i64]; omega
  have HN := Lib.hid hn
  clear h hp hx hsub hk hn hkl
  go_enter Try.func12, Try.ntmps12
  go_wp2_with fail
  refine HP.out.mono ?_
  rintro e w1 ⟨rfl, o1⟩
  clear HP
  have H1 := SideU.only HH.out o1 (fun _ _ => id)
  obtain ⟨g, cap, hvv, hcap, hg, v1, v2⟩ := H1.at_ HX.out
  rw [← HN.out] at hvv hcap
  have c1 := H1.c1.cell
  rw [hvv] at c1
  have c2 := H1.c2.cell
  have zb := cell_lt c1
  have v2 := v2.cell
  have zg := cell_lt v2
  have u := (H1.us r hrm).cell
  have uf := (H1.us r hrm).free
  have zu := cell_lt u
  have HVV := Lib.hid hvv
  have O1 := Lib.hid o1
  have M2 : SideU (w1.setCell ⟨gu, r, none⟩ (.bool false)).drew b gu most sg hv L (fun n => if n = r then false else rowB L n) :=
    SideU.only (H1.mark r false) ((Only.refl (fun _ => False) _).drew) (fun _ _ => id)
  have O2 : Only (SdB b gu hv) w (w1.setCell ⟨gu, r, none⟩ (.bool false)).drew := ((Only.of_none o1).setCell (.inl (.inr (.inl rfl))) _).drew
  have ne1 : ¬ gu = b := fun e => H1.ne e.symm
  have HDEL := Lib.hid (lv_delete (w1.setCell ⟨gu, r, none⟩ (.bool false)).drew hv n k (lvV L) (by rw [HN.out]; exact M2.own) (by omega) hkn (lvV_one L))
  rw [hvv] at HDEL
  have HM2 := Lib.hid M2
  have HO2 := Lib.hid O2
  clear H1 hvv o1 v1 M2 O2
  go_wp2_with fail
  go_still_tail 13, (by kernel_rfl)
  go_wp2_with fail
  refine HDEL.out.mono ?_
  intro e w3 hpost
  obtain ⟨v', rfl, hown, hgr, hloc⟩ := hpost
  obtain ⟨a', cap', rfl, hcap'⟩ := own_slice hown
  have o3 : Only (fun i => hv.ownBlock = some i) _ w3 := Only.of_grown hgr (fun q e => by rw [HVV.out]; exact e)
  have hR := SideU.row HM2.out (L' := cutAt k L) (U' := rowB (cutAt k L)) o3 (by rw [cut_len (by rw [← HN.out]; exact hkn), cut_cells, ← HN.out]; exact hown) (by
    rw [HVV.out]
    rcases hloc with e | e
    · exact .inl e
    · exact .inr ⟨_, e, Nat.le_refl _⟩) (fun n _ => HROW.out n) HSRT.out HND.out (fun x hx => HH.out.lt x (HSUB.out.subset hx)) (fun x hx => HH.out.pr x (HSUB.out.subset hx)) (by rw [cut_len (by rw [← HN.out]; exact hkn)]; omega)
  have sb : ¬ hv.ownBlock = some b := fun e => (HH.out.sep b e).1 rfl
  have m1 := HM2.out.c1.only o3 sb
  have m1c := m1.cell
  have m1f := m1.free
  rw [HVV.out] at m1c
  have HR := Lib.hid hR
  clear hown hgr hloc o3 hR sb m1 HDEL
  go_wp2_with fail
  go_returns
  refine ⟨_, rfl, HR.out.1, HO2.out.trans HR.out.2.1, ?_⟩
  rcases HR.out.2.2 with e | ⟨g, e, hg⟩
  · exact .inl e
  · exact .inr ⟨g, e, Nat.le_trans HO2.out.size hg⟩

theorem s_find_no (h : SideAt w b gu most sg hv L) (p : Int) (hp : has p L = false) :
    Calls Try.prog 16 #[.pointer (some ⟨b, 0, none⟩), .int .i64 p] w fun e w' => e = .returned (.int .i64 (-1)) ∧ Only (fun _ => False) w w' := by
  have HP := Lib.hid (s_place h p)
  rw [hp] at HP
  generalize pos sg p L = k at *
  clear h hp
  go_enter Try.func16, Try.ntmps16
  go_wp2_with fail
  refine HP.out.mono ?_
  rintro e w1 ⟨rfl, o1⟩
  go_wp2_with fail
  go_returns
  exact ⟨rfl, o1⟩
theorem s_find (h : SideAt w b gu most sg hv L) (p : Int) (r : Nat) (hx : (p, r) ∈ L) :
    Calls Try.prog 16 #[.pointer (some ⟨b, 0, none⟩), .int .i64 p] w fun e w' => e = .returned (.int .i64 (r : Nat)) ∧ Only (fun _ => False) w w' := by
  obtain ⟨k, hx⟩ := List.mem_iff_getElem?.1 hx
  have hk := has_pos h.hsg h.srt hx rfl
  simp only at hk
  have hp : has p L = true := (has_at h.hsg h.srt).2 ⟨(p, r), by rw [← hk]; exact hx, rfl⟩
  have HP := Lib.hid (s_place h p)
  rw [hp, ← hk] at HP
  have hkl := (List.getElem?_eq_some_iff.1 hx).1
  obtain ⟨g, cap, hvv, hcap, hg, v1, v2⟩ := h.at_ hx
  have c1 := h.c1.cell
  rw [hvv] at c1
  have v2 := v2.cell
  have C1 := fun W (o : Only (fun _ => False) w W) => Lib.hid (o.cell c1 id)
  have V2 := fun W (o : Only (fun _ => False) w W) => Lib.hid (o.cell v2 id)
  generalize L.length = n at *
  have ik : (0 : Int) ≤ (k : Int) ∧ (k : Int) < (n : Int) := by omega
  clear h hp hx hk hvv v1 v2 c1
  go_enter Try.func16, Try.ntmps16
  go_wp2_with fail
  refine HP.out.mono ?_
  rintro e w1 ⟨rfl, o1⟩
  have c1 := (C1 w1 o1).out
  have v2 := (V2 w1 o1).out
  have z1 := cell_lt c1
  have z2 := cell_lt v2
  go_wp2_with fail
  go_returns
  exact ⟨rfl, o1⟩
theorem s_better (h : SideAt w b gu most sg hv L) (p : Int) :
    Calls Try.prog 15 #[.pointer (some ⟨b, 0, none⟩), .int .i64 p] w fun e w' => e = .returned (.int .i64 (pos sg p L : Nat)) ∧ Only (fun _ => False) w w' := by
  have HP := Lib.hid (s_place h p)
  generalize pos sg p L = k at *
  generalize has p L = q at *
  clear h
  go_enter Try.func15, Try.ntmps15
  go_wp2_with fail
  refine HP.out.mono ?_
  rintro e w1 ⟨rfl, o1⟩
  go_wp2_with fail
  go_returns
  exact ⟨rfl, o1⟩
theorem s_len (h : SideAt w b gu most sg hv L) :
    Calls Try.prog 13 #[.pointer (some ⟨b, 0, none⟩)] w fun e w' => e = .returned (.int .i64 (L.length : Nat)) ∧ w = w' := by
  have c1 := h.c1.cell
  obtain ⟨a, cap, hvv, hcap⟩ := own_slice h.own
  rw [hvv] at c1
  have z1 := cell_lt c1
  generalize L.length = n at *
  clear h hvv
  go_enter Try.func13, Try.ntmps13
  go_wp2_with fail
  go_returns
  exact ⟨rfl, rfl⟩
theorem s_at_no (h : SideAt w b gu most sg hv L) (i : Int) (hi : i < 0 ∨ (L.length : Int) ≤ i) :
    Calls Try.prog 14 #[.pointer (some ⟨b, 0, none⟩), .int .i64 i] w fun e w' => e = .returned (.tuple #[.int .i64 0, .bool false]) ∧ w = w' := by
  have c1 := h.c1.cell
  obtain ⟨a, cap, hvv, hcap⟩ := own_slice h.own
  rw [hvv] at c1
  have z1 := cell_lt c1
  generalize L.length = n at *
  clear h hvv
  by_cases h1 : i < 0
  · have t1 : decide (i < 0) = true := by simpa using h1
    clear hi
    go_enter Try.func14, Try.ntmps14
    go_wp2_with fail
    go_returns
    exact ⟨rfl, rfl⟩
  · have t1 : decide (i < 0) = false := by simpa using h1
    have t2 : decide ((n : Int) ≤ i) = true := by simp; omega
    clear hi
    go_enter Try.func14, Try.ntmps14
    go_wp2_with fail
    go_returns
    exact ⟨rfl, rfl⟩
theorem s_at (h : SideAt w b gu most sg hv L) (i : Nat) (x : Int × Nat) (hx : L[i]? = some x) :
    Calls Try.prog 14 #[.pointer (some ⟨b, 0, none⟩), .int .i64 (i : Nat)] w fun e w' => e = .returned (.tuple #[.int .i64 x.1, .bool true]) ∧ w = w' := by
  have hkl := (List.getElem?_eq_some_iff.1 hx).1
  obtain ⟨g, cap, hvv, hcap, hg, v1, v2⟩ := h.at_ hx
  have c1 := h.c1.cell
  rw [hvv] at c1
  have v1 := v1.cell
  have z1 := cell_lt c1
  have z2 := cell_lt v1
  generalize L.length = n at *
  have ik : (0 : Int) ≤ (i : Int) ∧ (i : Int) < (n : Int) := by omega
  have t1 : decide ((i : Int) < 0) = false := by simp
  have t2 : decide (n ≤ i) = false := by simp; omega
  have t2' : decide ((n : Int) ≤ (i : Int)) = false := by simp; omega
  obtain ⟨xp, xr⟩ := x
  simp only at v1
  clear h hx hvv v2
  go_enter Try.func14, Try.ntmps14
  go_wp2_with fail
  go_returns
  exact ⟨rfl, rfl⟩
/-- The best price; nought and false: none. -/
def bestV (L : List (Int × Nat)) : Value := match L with | [] => .tuple #[.int .i64 0, .bool false] | x :: _ => .tuple #[.int .i64 x.1, .bool true]
theorem s_best_no (h : SideAt w b gu most sg hv []) :
    Calls Try.prog 20 #[.pointer (some ⟨b, 0, none⟩)] w fun e w' => e = .returned (.tuple #[.int .i64 0, .bool false]) ∧ w = w' := by
  have HA := Lib.hid (s_at_no h 0 (.inr (by simp)))
  clear h
  go_enter Try.func20, Try.ntmps20
  go_wp2_with fail
  refine HA.out.mono ?_
  rintro e w1 ⟨rfl, rfl⟩
  go_wp2_with fail
  go_returns
  exact ⟨rfl, rfl⟩
theorem s_best (x : Int × Nat) (t : List (Int × Nat)) (h : SideAt w b gu most sg hv (x :: t)) :
    Calls Try.prog 20 #[.pointer (some ⟨b, 0, none⟩)] w fun e w' => e = .returned (.tuple #[.int .i64 x.1, .bool true]) ∧ w = w' := by
  have HA := Lib.hid (s_at h 0 x rfl)
  clear h
  obtain ⟨xp, xr⟩ := x
  go_enter Try.func20, Try.ntmps20
  go_wp2_with fail
  refine HA.out.mono ?_
  rintro e w1 ⟨rfl, rfl⟩
  go_wp2_with fail
  go_returns
  exact ⟨rfl, rfl⟩
end

/-! ### New -/
theorem s_new_no (w : World) (side most : Int) (h : most < 0 ∨ 128 < most) :
    Calls Try.prog 10 #[.int .u8 side, .int .i64 most] w fun e w' => e = .returned (.tuple #[.pointer none, .int .i64 1]) ∧ Only (fun _ => False) w w' := by
  by_cases h1 : most < 0
  · have t1 : decide (most < 0) = true := by simpa using h1
    clear h
    go_enter Try.func10, Try.ntmps10
    go_wp2_with fail
    go_returns
    exact ⟨rfl, by repeat' (first | (with_reducible exact Only.refl _ _) | (with_reducible assumption) | (refine Only.of_none ?_; with_reducible assumption) | (with_reducible refine Only.drewN ?_ _) | (with_reducible refine Only.drew ?_) | (with_reducible refine Only.alloc ?_ _) | (with_reducible refine Only.setCell ?_ ?_ _) | (with_reducible refine Only.then0 ?_ (by with_reducible assumption)) | (with_reducible refine Only.thenN ?_ (by with_reducible assumption) ?_) | (with_reducible refine Only.trans ?_ (by with_reducible assumption)) | (refine .inl ?_; first | rfl | (simp; done) | (simp [Ar.blk]; done)) | (refine .inr ?_; first | omega | (simp; done) | (simp; omega) | exact Only.size (by with_reducible assumption) | (refine Nat.le_trans (Only.size (by with_reducible assumption)) ?_; simp; done)))⟩
  · have t1 : decide (most < 0) = false := by simpa using h1
    have t2 : decide (128 < most) = true := by simp; omega
    clear h
    go_enter Try.func10, Try.ntmps10
    go_wp2_with fail
    go_returns
    exact ⟨rfl, by repeat' (first | (with_reducible exact Only.refl _ _) | (with_reducible assumption) | (refine Only.of_none ?_; with_reducible assumption) | (with_reducible refine Only.drewN ?_ _) | (with_reducible refine Only.drew ?_) | (with_reducible refine Only.alloc ?_ _) | (with_reducible refine Only.setCell ?_ ?_ _) | (with_reducible refine Only.then0 ?_ (by with_reducible assumption)) | (with_reducible refine Only.thenN ?_ (by with_reducible assumption) ?_) | (with_reducible refine Only.trans ?_ (by with_reducible assumption)) | (refine .inl ?_; first | rfl | (simp; done) | (simp [Ar.blk]; done)) | (refine .inr ?_; first | omega | (simp; done) | (simp; omega) | exact Only.size (by with_reducible assumption) | (refine Nat.le_trans (Only.size (by with_reducible assumption)) ?_; simp; done)))⟩

theorem Try.infoBool : (Try.prog.info? 4).map (fun i => (i.zero, i.size, i.bytes)) = some (some (.bool false), 1, 1) := by kernel_rfl

/-- What lies there behind New. -/
def SdNew (w : World) (most : Nat) (sg : Int) (e : Ending) (w' : World) : Prop :=
  ∃ b gu, e = .returned (.tuple #[.pointer (some ⟨b, 0, none⟩), .int .i64 0]) ∧ SideAt w' b gu most sg (.slice none 0 0) [] ∧ Only (fun _ => False) w w' ∧ w.heap.size ≤ b ∧ w.heap.size ≤ gu

theorem made_side {w : World} {b gu most : Nat} {sg : Int} (hc0 : Cell w b 0 (.int .i64 sg)) (hc1 : Cell w b 1 (.slice none 0 0)) (hc2 : Cell w b 2 (.slice (some ⟨gu, 0, none⟩) most most)) (hu : ∀ n, n < most → Cell w gu n (.bool false)) (hne : b ≠ gu) (hg : gu < w.heap.size) (hsg : sg = 1 ∨ sg = -1) (hm : most ≤ 128) : SideAt w b gu most sg (.slice none 0 0) [] :=
  ⟨hc0, hc1, hc2, (fun n hn => by unfold rowB; simpa using hu n hn), World.ownsRow_nil _ _ _ _, (fun g e => by cases e), hne, hsg, List.Pairwise.nil, List.nodup_nil, (fun x hx => by simp at hx), (fun x hx => by simp at hx), Nat.zero_le _, hm, hg⟩

set_option maxHeartbeats 1000000 in
theorem s_new_side (w : World) (side : Int) (most : Nat) (hm : most ≤ 128) (h1 : side ≠ 1) (h2 : side ≠ 2) :
    Calls Try.prog 10 #[.int .u8 side, .int .i64 most] w fun e w' => e = .returned (.tuple #[.pointer none, .int .i64 1]) ∧ Only (fun _ => False) w w' := by
  obtain ⟨i1, hi1, hz1, hs1, hb1⟩ := info_parts Try.infoBool
  have m1 := fun W => run_makeN (P := Try.prog) 33 4 i1 _ Try.underlying33 hi1 hz1 hs1 most (by rw [hb1]; omega) (by omega) W
  change ∀ W : World, _ = Result.ok _ (W.alloc (.cells (madeCells #[.bool false] (most * 1)) _)) at m1
  clear hi1 hz1 hs1 hb1
  have t1 : decide ((most : Int) < 0) = false := by simp
  have t2 : decide (128 < most) = false := by simp; omega
  have t2' : decide ((128 : Int) < (most : Int)) = false := by simp; omega
  have t3 : (side == 1) = false := by simpa using h1
  have t4 : (side == 2) = false := by simpa using h2
  clear h1 h2
  go_enter Try.func10, Try.ntmps10
  go_wp2_with fail
  go_returns
  exact ⟨rfl, by repeat' (first | (with_reducible exact Only.refl _ _) | (with_reducible assumption) | (refine Only.of_none ?_; with_reducible assumption) | (with_reducible refine Only.drewN ?_ _) | (with_reducible refine Only.drew ?_) | (with_reducible refine Only.alloc ?_ _) | (with_reducible refine Only.setCell ?_ ?_ _) | (with_reducible refine Only.then0 ?_ (by with_reducible assumption)) | (with_reducible refine Only.thenN ?_ (by with_reducible assumption) ?_) | (with_reducible refine Only.trans ?_ (by with_reducible assumption)) | (refine .inl ?_; first | rfl | (simp; done) | (simp [Ar.blk]; done)) | (refine .inr ?_; first | omega | (simp; done) | (simp; omega) | exact Only.size (by with_reducible assumption) | (refine Nat.le_trans (Only.size (by with_reducible assumption)) ?_; simp; done)))⟩

set_option maxHeartbeats 1000000 in
theorem s_new_sell (w : World) (most : Nat) (hm : most ≤ 128) :
    Calls Try.prog 10 #[.int .u8 2, .int .i64 most] w (SdNew w most 1) := by
  obtain ⟨i1, hi1, hz1, hs1, hb1⟩ := info_parts Try.infoBool
  have m1 := fun W => run_makeN (P := Try.prog) 33 4 i1 _ Try.underlying33 hi1 hz1 hs1 most (by rw [hb1]; omega) (by omega) W
  change ∀ W : World, _ = Result.ok _ (W.alloc (.cells (madeCells #[.bool false] (most * 1)) _)) at m1
  clear hi1 hz1 hs1 hb1
  have t1 : decide ((most : Int) < 0) = false := by simp
  have t2 : decide (128 < most) = false := by simp; omega
  have t2' : decide ((128 : Int) < (most : Int)) = false := by simp; omega
  go_enter Try.func10, Try.ntmps10
  go_wp2_with fail
  go_returns
  refine ⟨w.heap.size + 1, w.heap.size, rfl, ?_, by repeat' (first | (with_reducible exact Only.refl _ _) | (with_reducible assumption) | (refine Only.of_none ?_; with_reducible assumption) | (with_reducible refine Only.drewN ?_ _) | (with_reducible refine Only.drew ?_) | (with_reducible refine Only.alloc ?_ _) | (with_reducible refine Only.setCell ?_ ?_ _) | (with_reducible refine Only.then0 ?_ (by with_reducible assumption)) | (with_reducible refine Only.thenN ?_ (by with_reducible assumption) ?_) | (with_reducible refine Only.trans ?_ (by with_reducible assumption)) | (refine .inl ?_; first | rfl | (simp; done) | (simp [Ar.blk]; done)) | (refine .inr ?_; first | omega | (simp; done) | (simp; omega) | exact Only.size (by with_reducible assumption) | (refine Nat.le_trans (Only.size (by with_reducible assumption)) ?_; simp; done))), by omega, by omega⟩
  have hb := fun o v => Cell.new (w := w.alloc (.cells (madeCells #[.bool false] (most * 1)) 4)) (cs := #[.int .i64 1, .slice none 0 0, .slice (some ⟨w.heap.size, 0, none⟩) most most]) (t := 104) (o := o) (v := v)
  simp only [World.size_alloc, Nat.mul_one] at hb
  have hu : ∀ n, n < most → Cell ((w.alloc (.cells (madeCells #[.bool false] most) 4)).alloc (.cells #[.int .i64 1, .slice none 0 0, .slice (some ⟨w.heap.size, 0, none⟩) most most] 104)) w.heap.size n (.bool false) := fun n hn => (cells_made (heap_alloc_new w _) n hn).alloc _
  exact made_side (hb 0 _ rfl) (hb 1 _ rfl) (hb 2 _ rfl) hu (by omega) (by simp; omega) (.inl rfl) hm

set_option maxHeartbeats 1000000 in
theorem s_new_buy (w : World) (most : Nat) (hm : most ≤ 128) :
    Calls Try.prog 10 #[.int .u8 1, .int .i64 most] w (SdNew w most (-1)) := by
  obtain ⟨i1, hi1, hz1, hs1, hb1⟩ := info_parts Try.infoBool
  have m1 := fun W => run_makeN (P := Try.prog) 33 4 i1 _ Try.underlying33 hi1 hz1 hs1 most (by rw [hb1]; omega) (by omega) W
  change ∀ W : World, _ = Result.ok _ (W.alloc (.cells (madeCells #[.bool false] (most * 1)) _)) at m1
  clear hi1 hz1 hs1 hb1
  have t1 : decide ((most : Int) < 0) = false := by simp
  have t2 : decide (128 < most) = false := by simp; omega
  have t2' : decide ((128 : Int) < (most : Int)) = false := by simp; omega
  go_enter Try.func10, Try.ntmps10
  go_wp2_with fail
  go_returns
  refine ⟨w.heap.size + 1, w.heap.size, rfl, ?_, by repeat' (first | (with_reducible exact Only.refl _ _) | (with_reducible assumption) | (refine Only.of_none ?_; with_reducible assumption) | (with_reducible refine Only.drewN ?_ _) | (with_reducible refine Only.drew ?_) | (with_reducible refine Only.alloc ?_ _) | (with_reducible refine Only.setCell ?_ ?_ _) | (with_reducible refine Only.then0 ?_ (by with_reducible assumption)) | (with_reducible refine Only.thenN ?_ (by with_reducible assumption) ?_) | (with_reducible refine Only.trans ?_ (by with_reducible assumption)) | (refine .inl ?_; first | rfl | (simp; done) | (simp [Ar.blk]; done)) | (refine .inr ?_; first | omega | (simp; done) | (simp; omega) | exact Only.size (by with_reducible assumption) | (refine Nat.le_trans (Only.size (by with_reducible assumption)) ?_; simp; done))), by omega, by omega⟩
  have hb := fun o v => Cell.new (w := w.alloc (.cells (madeCells #[.bool false] (most * 1)) 4)) (cs := #[.int .i64 (-1), .slice none 0 0, .slice (some ⟨w.heap.size, 0, none⟩) most most]) (t := 104) (o := o) (v := v)
  simp only [World.size_alloc, Nat.mul_one] at hb
  have hu : ∀ n, n < most → Cell ((w.alloc (.cells (madeCells #[.bool false] most) 4)).alloc (.cells #[.int .i64 (-1), .slice none 0 0, .slice (some ⟨w.heap.size, 0, none⟩) most most] 104)) w.heap.size n (.bool false) := fun n hn => (cells_made (heap_alloc_new w _) n hn).alloc _
  exact made_side (hb 0 _ rfl) (hb 1 _ rfl) (hb 2 _ rfl) hu (by omega) (by simp; omega) (.inr rfl) hm
end Go.Proofs.Ytkglplngnjgnhaa
