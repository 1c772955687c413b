/- The document's book: with, without. Conditions: the lists are read; with: the prices from better to worse. -/
import Derived.Test.YtilngakgofjmpaaR6c
import Derived.Laws.AppendOwnNone
namespace Go.Proofs.Ytilngakgofjmpaa
set_option linter.unusedVariables false
set_option linter.unusedSimpArgs false
open Go.RowKit Go.Shelf
open Od (OrdR)

theorem ordC_one (l : List OrdR) : ∀ u ∈ ordC l, u.oneCell' = true := by
  intro u hu
  unfold ordC at hu
  obtain ⟨o, _, h⟩ := List.mem_flatMap.1 hu
  simp only [List.mem_cons, List.mem_nil_iff, or_false] at h
  rcases h with rfl | rfl | rfl | rfl | rfl <;> rfl
theorem ordC_take (l : List OrdR) (k : Nat) : ordC (l.take k) = (ordC l).take (k * 5) := by
  induction l generalizing k with
  | nil => simp [ordC]
  | cons x t ih =>
    cases k with
    | zero => simp [ordC]
    | succ k =>
      have := ih k
      unfold ordC at this ⊢
      rw [List.take_succ_cons, List.flatMap_cons, List.flatMap_cons, this, show (k + 1) * 5 = k * 5 + 1 + 1 + 1 + 1 + 1 by omega]
      simp [List.take_succ_cons]
theorem ordC_drop (l : List OrdR) (k : Nat) : ordC (l.drop k) = (ordC l).drop (k * 5) := by
  induction l generalizing k with
  | nil => simp [ordC]
  | cons x t ih =>
    cases k with
    | zero => simp [ordC]
    | succ k =>
      have := ih k
      unfold ordC at this ⊢
      rw [List.drop_succ_cons, List.flatMap_cons, this, show (k + 1) * 5 = k * 5 + 1 + 1 + 1 + 1 + 1 by omega]
      simp

/-- An append of orders onto a row of one's own. -/
theorem app_ord {W : World} {base n : Nat} {v : Value} {xs : List Value} (hown : W.ownsRow base 54 5 v n xs) (a : Option Addr) (m c : Nat) (news : List Value) (hl : news.length = m * 5)
    (hc : ∀ A, a = some A → ∀ j u, news[j]? = some u → W.cell? (A.add j) = some u) (hn : a = none → m = 0 ∧ c = 0) (h1 : ∀ u ∈ news, u.oneCell' = true) (hle : n + m ≤ 1000000) (hbase : base ≤ W.heap.size) :
    ∃ v' W', (Builtin.append_ #[52, 52] 52 #[v, .slice a m c]).run Try.prog W = .ok v' W' ∧ W'.ownsRow base 54 5 v' (n + m) (xs ++ news) ∧ W.grownBy W' v.ownBlock ∧ (v'.ownBlock = v.ownBlock ∨ v'.ownBlock = some W.heap.size) := by
  obtain ⟨i3, hi3, hz3, hs3, hb3⟩ := info_parts Try.infoOrder
  cases a with
  | none =>
    obtain ⟨rfl, rfl⟩ := hn rfl
    obtain rfl : news = [] := List.length_eq_zero_iff.1 (by simpa using hl)
    refine ⟨v, W, run_append_owned_none (P := Try.prog) (w := W) base 52 52 54 i3 5 Try.underlying52 hi3 v n xs hown, by simpa using hown, ⟨rfl, rfl, rfl, Nat.le_refl _, fun _ _ _ => rfl⟩, .inl rfl⟩
  | some A => exact append_own (P := Try.prog) (ty := 52) Try.underlying52 hi3 hz3 hs3 hb3 rfl (by decide) hown A m c news hl (hc A rfl) h1 (by unfold maxLen; omega) (by omega) hbase

/-- What is gathered in one row of one's own, by appends: the run equations ahead. -/
structure Gr (W W' : World) (v : Value) (n : Nat) (xs : List Value) : Prop where
  own : W'.ownsRow W.heap.size 54 5 v n xs
  only : Only (fun _ => False) W W'
theorem Gr.start (W : World) : Gr W W (.slice none 0 0) 0 [] := ⟨World.ownsRow_nil _ _ _ _, Only.refl _ _⟩
theorem Gr.alloc {W W' : World} {v : Value} {n : Nat} {xs : List Value} (h : Gr W W' v n xs) (o : Obj) : Gr W (W'.alloc o) v n xs := ⟨ownsRow_apart h.own ((Only.refl (fun _ => False) W').alloc o) (fun _ _ => id), h.only.alloc o⟩
theorem Gr.app {W W' : World} {v : Value} {n : Nat} {xs : List Value} (h : Gr W W' v n xs) (a : Option Addr) (m c : Nat) (news : List Value) (hl : news.length = m * 5)
    (hc : ∀ A, a = some A → ∀ j u, news[j]? = some u → W'.cell? (A.add j) = some u) (hn : a = none → m = 0 ∧ c = 0) (h1 : ∀ u ∈ news, u.oneCell' = true) (hle : n + m ≤ 1000000) :
    ∃ v' W'', (Builtin.append_ #[52, 52] 52 #[v, .slice a m c]).run Try.prog W' = .ok v' W'' ∧ Gr W W'' v' (n + m) (xs ++ news) := by
  obtain ⟨v', W'', hr, ho, hg, hloc⟩ := app_ord h.own a m c news hl hc hn h1 hle h.only.size
  exact ⟨v', W'', hr, ho, h.only.new (Only.of_grown hg (fun q e => (h.own.lt q e).1))⟩

/-- A row that is read, in parts. -/
theorem row_part {w W : World} {base g cap n : Nat} {e : TypeId} {xs : List Value} (hown : w.ownsRow base e 5 (.slice (some ⟨g, 0, none⟩) n cap) n xs) (o : Only (fun _ => False) w W) (i m : Nat) : ∀ j u, ((xs.drop (i * 5)).take (m * 5))[j]? = some u → W.cell? ((⟨g, i * 5, none⟩ : Addr).add j) = some u := fun j u hu => by
  rw [show (⟨g, i * 5, none⟩ : Addr).add j = ⟨g, i * 5 + j, none⟩ by unfold Addr.add; split <;> simp_all]
  rw [List.getElem?_take] at hu
  split at hu
  · rw [List.getElem?_drop] at hu
    have := hown.cells rfl _ _ hu
    rw [show (⟨g, 0, none⟩ : Addr).add (i * 5 + j) = ⟨g, i * 5 + j, none⟩ by unfold Addr.add; split <;> simp_all] at this
    exact o.cell this id
  · cases hu
theorem row_first {w W : World} {base g cap n : Nat} {e : TypeId} {xs : List Value} (hown : w.ownsRow base e 5 (.slice (some ⟨g, 0, none⟩) n cap) n xs) (o : Only (fun _ => False) w W) (m : Nat) : ∀ j u, (xs.take (m * 5))[j]? = some u → W.cell? ((⟨g, 0, none⟩ : Addr).add j) = some u := fun j u hu => by
  have := row_part hown o 0 m j u (by simpa using hu)
  rwa [Nat.zero_mul] at this

/-! ### without -/
set_option maxRecDepth 100000 in
set_option maxHeartbeats 2000000 in
theorem r6_without {w : World} {base : Nat} {v : Value} {L : List OrdR} (hown : w.ownsRow base 54 5 v L.length (ordC L)) (k : Nat) (hk : k < L.length) (hl : L.length ≤ 1000000) :
    Calls Try.prog 133 #[v, .int .i64 (k : Nat)] w (ListPost w (L.take k ++ L.drop (k + 1))) := by
  obtain ⟨g, cap, rfl, hcap, hb, hg, _⟩ := ownC hown (by omega)
  have hlen := ordC_length L
  have t1 : (ordC (L.take k)).length = k * 5 := by rw [ordC_length, List.length_take]; omega
  have t2 : (ordC (L.drop (k + 1))).length = (L.length - (k + 1)) * 5 := by rw [ordC_length, List.length_drop]
  have hA : ∃ A, (if cap = k + 1 then some (⟨g, 0, none⟩ : Addr) else some ⟨g, (k + 1) * 5, none⟩) = some A ∧ ∀ W (o : Only (fun _ => False) w W), ∀ j u, (ordC (L.drop (k + 1)))[j]? = some u → W.cell? (A.add j) = some u := by
    by_cases e : cap = k + 1
    · refine ⟨_, if_pos e, fun W o j u hu => ?_⟩
      have := (List.getElem?_eq_some_iff.1 hu).1
      omega
    · refine ⟨_, if_neg e, fun W o j u hu => ?_⟩
      refine row_part hown o (k + 1) (L.length - (k + 1)) j u ?_
      rw [← ordC_drop, List.take_of_length_le (by omega)]; exact hu
  obtain ⟨A, hA, hsrc⟩ := hA
  obtain ⟨v1, W1, r1, g1⟩ := (Gr.start w).app (some ⟨g, 0, none⟩) k cap (ordC (L.take k)) t1 (fun A e j u hu => by injection e with e; subst e; rw [ordC_take] at hu; exact row_first hown (Only.refl _ _) k j u hu) (fun e => by cases e) (ordC_one _) (by omega)
  simp only [Nat.zero_add, List.nil_append] at g1
  obtain ⟨a1, c1, rfl, _⟩ := own_slice g1.own
  obtain ⟨v2, W2, r2, g2⟩ := g1.app (some A) (L.length - (k + 1)) (cap - (k + 1)) (ordC (L.drop (k + 1))) t2 (fun B e j u hu => by injection e with e; subst e; exact hsrc W1 g1.only j u hu) (fun e => by cases e) (ordC_one _) (by omega)
  have hfin : W2.ownsRow w.heap.size 54 5 v2 (L.take k ++ L.drop (k + 1)).length (ordC (L.take k ++ L.drop (k + 1))) := by
    have := g2.own
    rw [← ordC_append] at this
    rw [show (L.take k ++ L.drop (k + 1)).length = k + (L.length - (k + 1)) by rw [List.length_append, List.length_take, List.length_drop]; omega]
    exact this
  have HF := Lib.hid (⟨hfin, g2.only⟩ : _ ∧ _)
  obtain ⟨n, hn⟩ : ∃ n, n = L.length := ⟨_, rfl⟩
  rw [← hn] at hk hl hcap r2 ⊢
  obtain ⟨M, hM⟩ : ∃ M, M = L.take k ++ L.drop (k + 1) := ⟨_, rfl⟩
  rw [← hM] at HF ⊢
  have w1 : IntKind.i64.wrap ((k : Int) + 1) = ((k + 1 : Nat) : Int) := by rw [IntKind.wrap_i64]; omega
  have hkn : (k : Int) ≤ (cap : Int) := by omega
  have hkn2 : ((k + 1 : Nat) : Int) ≤ (n : Int) := by omega
  have hkn3 : (k + 1 : Nat) ≤ n := by omega
  have hkn4 : k ≤ cap := by omega
  clear hown hlen t1 t2 hsrc g1 g2 hfin hM hn
  go_enter Try.func133, Try.ntmps133
  go_wp2_with (first | (at_builtin; refine wpList_append_run rfl (.tmp 6) (.tmp 9) 52 rfl _ _ _ rfl rfl r1 ?_) | (at_builtin; refine wpList_append_run rfl (.tmp 11) (.tmp 15) 52 rfl _ _ _ rfl rfl r2 ?_))
  go_returns
  exact ⟨v2, rfl, HF.out⟩

/-! ### with -/
theorem r6_bet (w : World) (q : Bool) (a b : Int) :
    Calls Try.prog 126 #[.int .u8 (sdN q), .int .i64 a, .int .i64 b] w fun e w' => e = .returned (.bool (decide (sgn q * a < sgn q * b))) ∧ w = w' := by
  cases q with
  | false =>
    have e : decide (sgn false * a < sgn false * b) = decide (b < a) := by rw [Bool.eq_iff_iff]; simp [sgn]
    rw [e]
    show Calls _ _ #[.int .u8 1, _, _] _ _
    go_enter Try.func126, Try.ntmps126
    go_wp2_with fail
    go_returns
    exact ⟨rfl, rfl⟩
  | true =>
    have e : decide (sgn true * a < sgn true * b) = decide (a < b) := by rw [Bool.eq_iff_iff]; simp [sgn]
    rw [e]
    show Calls _ _ #[.int .u8 2, _, _] _ _
    go_enter Try.func126, Try.ntmps126
    go_wp2_with fail
    go_returns
    exact ⟨rfl, rfl⟩

/-- The three appends of with, ahead. -/
theorem with_run {w W : World} {L : List OrdR} (o : Only (fun _ => False) w W) (k : Nat) (hk : k ≤ L.length) (hl : L.length ≤ 900000) (x : OrdR) (a1 a2 : Option Addr) (c1 c2 : Nat)
    (h1 : ∀ W, Only (fun _ => False) w W → ∀ A, a1 = some A → ∀ j u, (ordC (L.take k))[j]? = some u → W.cell? (A.add j) = some u) (n1 : a1 = none → k = 0 ∧ c1 = 0)
    (h2 : ∀ W, Only (fun _ => False) w W → ∀ A, a2 = some A → ∀ j u, (ordC (L.drop k))[j]? = some u → W.cell? (A.add j) = some u) (n2 : a2 = none → L.length - k = 0 ∧ c2 = 0) :
    ∃ b1 d1 W1 b2 d2 W2 b3 m3 d3 W3, (Builtin.append_ #[52, 52] 52 #[.slice none 0 0, .slice a1 k c1]).run Try.prog W = .ok (.slice b1 k d1) W1 ∧
      (Builtin.append_ #[52, 52] 52 #[.slice b1 k d1, .slice (some ⟨W1.heap.size, 0, none⟩) 1 1]).run Try.prog (W1.alloc (.cells #[.int .i64 x.i, .int .i64 x.c, .int .u8 x.s, .int .i64 x.p, .int .i64 x.q] 54)) = .ok (.slice b2 (k + 1) d2) W2 ∧
      (Builtin.append_ #[52, 52] 52 #[.slice b2 (k + 1) d2, .slice a2 (L.length - k) c2]).run Try.prog W2 = .ok (.slice b3 m3 d3) W3 ∧
      W3.ownsRow w.heap.size 54 5 (.slice b3 m3 d3) (L.take k ++ x :: L.drop k).length (ordC (L.take k ++ x :: L.drop k)) ∧ Only (fun _ => False) w W3 ∧ Only (fun _ => False) W W1 := by
  have t1 : (ordC (L.take k)).length = k * 5 := by rw [ordC_length, List.length_take]; omega
  have t2 : (ordC (L.drop k)).length = (L.length - k) * 5 := by rw [ordC_length, List.length_drop]
  obtain ⟨v1, W1, r1, g1⟩ := (Gr.start W).app a1 k c1 (ordC (L.take k)) t1 (h1 W o) n1 (ordC_one _) (by omega)
  simp only [Nat.zero_add, List.nil_append] at g1
  obtain ⟨b1, d1, rfl, _⟩ := own_slice g1.own
  have hone : ordC [x] = [.int .i64 x.i, .int .i64 x.c, .int .u8 x.s, .int .i64 x.p, .int .i64 x.q] := rfl
  obtain ⟨v2, W2, r2, g2⟩ := (g1.alloc (.cells #[.int .i64 x.i, .int .i64 x.c, .int .u8 x.s, .int .i64 x.p, .int .i64 x.q] 54)).app (some ⟨W1.heap.size, 0, none⟩) 1 1 (ordC [x]) rfl
    (fun A e j u hu => by obtain rfl := Option.some.inj e; rw [hone] at hu; exact cell_five_new W1 _ _ _ _ _ _ j u hu) (fun e => by cases e) (ordC_one _) (by omega)
  obtain ⟨b2, d2, rfl, _⟩ := own_slice g2.own
  obtain ⟨v3, W3, r3, g3⟩ := g2.app a2 (L.length - k) c2 (ordC (L.drop k)) t2 (h2 W2 (o.trans g2.only)) n2 (ordC_one _) (by omega)
  obtain ⟨b3, d3, rfl, _⟩ := own_slice g3.own
  refine ⟨b1, d1, W1, b2, d2, W2, b3, _, d3, W3, r1, r2, r3, ?_, o.trans g3.only, g1.only⟩
  have := ownsRow_base g3.own o.size
  rw [← ordC_append, ← ordC_append, List.append_assoc, List.singleton_append] at this
  rw [show (L.take k ++ x :: L.drop k).length = k + 1 + (L.length - k) by rw [List.length_append, List.length_cons, List.length_take, List.length_drop]; omega]
  exact this
theorem insL_at {sg : Int} {o : OrdR} {L : List OrdR} {k : Nat} (h1 : ∀ x ∈ L.take k, sg * x.p ≤ sg * o.p) (h2 : ∀ x, L[k]? = some x → ¬ sg * x.p ≤ sg * o.p) (hs : L.Pairwise fun x y => sg * x.p ≤ sg * y.p) : insL sg o L = L.take k ++ o :: L.drop k := by
  conv => lhs; rw [← List.take_append_drop k L]
  refine insL_mid h1 fun y hy => ?_
  cases hd : L[k]? with
  | none => rw [List.drop_eq_nil_of_le (by rw [List.getElem?_eq_none_iff] at hd; exact hd)] at hy; cases hy
  | some x =>
    have h3 := h2 x hd
    have hk := (List.getElem?_eq_some_iff.1 hd).1
    have e : L.drop k = x :: L.drop (k + 1) := by rw [List.drop_eq_getElem_cons hk, (List.getElem?_eq_some_iff.1 hd).2]
    have hp : (L.drop k).Pairwise fun x y => sg * x.p ≤ sg * y.p := List.Pairwise.sublist (List.drop_sublist _ _) hs
    rw [e] at hy hp
    rcases List.mem_cons.1 hy with rfl | hy
    · exact h3
    · have := (List.pairwise_cons.1 hp).1 y hy
      omega

set_option maxRecDepth 100000 in
set_option maxHeartbeats 4000000 in
theorem r6_with {w : World} {base : Nat} {v : Value} {L : List OrdR} (hown : w.ownsRow base 54 5 v L.length (ordC L)) (hl : L.length ≤ 900000) (q : Bool) (o : OrdR) (ho : o.s = sdN q) (hs : L.Pairwise fun x y => sgn q * x.p ≤ sgn q * y.p) :
    Calls Try.prog 132 #[v, ordV o] w (ListPost w (insL (sgn q) o L)) := by
  rcases hown.2 with ⟨rfl, hL0⟩ | ⟨g, cap, cur, rfl, _, hgg, hcap, _⟩
  · obtain rfl : L = [] := List.length_eq_zero_iff.1 hL0
    obtain ⟨oi, oc, os, op, oz⟩ := o
    obtain ⟨W0, hW0⟩ : ∃ W0, W0 = w.alloc (.cells #[.int .i64 oi, .int .i64 oc, .int .u8 os, .int .i64 op, .int .i64 oz] 54) := ⟨_, rfl⟩
    have h5 := Five.new w (.int .i64 oi) (.int .i64 oc) (.int .u8 os) (.int .i64 op) (.int .i64 oz) 54
    have oW : Only (fun _ => False) w W0 := by rw [hW0]; exact (Only.refl _ w).alloc _
    rw [← hW0] at h5
    have H5 := Lib.hid h5
    have HOW := Lib.hid oW
    unfold ordV
    simp only [List.length_nil]
    clear hown hs ho hL0 hl h5 oW
    go_enter Try.func132, Try.ntmps132
    go_wp2_with fail
    rw [← hW0]
    clear hW0
    refine wp_loop_rounds 1 ?_
    rw [rounds_succ]
    go_wp2_with fail
    go_quiet (fail)
    generalize hwq : W0.drewN _ = wq
    have oq : Only (fun _ => False) w wq := by rw [← hwq]; exact HOW.out.drewN _
    have h6 := H5.out.only (show Only (fun _ => False) W0 wq by rw [← hwq]; exact (Only.refl _ _).drewN _) id
    obtain ⟨b1, d1, W1, b2, d2, W2, b3, m3, d3, W3, r1, r2, r3, hfin, o3, o1⟩ := with_run (L := []) oq 0 (Nat.zero_le _) (by simp) ⟨oi, oc, os, op, oz⟩ none none 0 0 (fun _ _ _ h => by cases h) (fun _ => ⟨rfl, rfl⟩) (fun _ _ _ h => by cases h) (fun _ => ⟨rfl, rfl⟩)
    have h7 := h6.only o1 id
    have y0 := h7.c0.cell; have y1 := h7.c1.cell; have y2 := h7.c2.cell; have y3 := h7.c3.cell; have y4 := h7.c4.cell
    have yz := cell_lt y0
    simp only [List.length_nil, Nat.zero_sub] at r1 r2 r3
    have HF := Lib.hid (⟨hfin, o3⟩ : _ ∧ _)
    clear hfin o3 o1 h6 h7 oq hwq
    go_wp2_with (first | (at_builtin; refine wpList_append_run rfl (.tmp 35) (.tmp 38) 52 rfl _ _ _ rfl rfl r1 ?_) | (at_builtin; refine wpList_append_run rfl (.tmp 40) (.tmp 42) 52 rfl _ _ _ rfl rfl r2 ?_) | (at_builtin; refine wpList_append_run rfl (.tmp 44) (.tmp 47) 52 rfl _ _ _ rfl rfl r3 ?_; clear r1 r2 r3))
    go_returns
    exact ⟨_, rfl, HF.out⟩
  · obtain ⟨n, hn⟩ : ∃ n, n = L.length := ⟨_, rfl⟩
    have hcell := hown
    have HA := Lib.hid (show OrdAt w (some ⟨g, 0, none⟩) L from by
      obtain ⟨a', cap', e, _, h⟩ := OrdAt.of_own hown
      injection e with e1 _ _
      rw [e1]; exact h)
    have HOWN := Lib.hid hown
    have HS := Lib.hid hs
    rw [← hn] at hl hcap
    obtain ⟨oi, oc, os, op, oz⟩ := o
    simp only at ho HS ⊢
    subst ho
    have HB := Lib.hid fun W a => r6_bet W q a op
    obtain ⟨sd, hsd⟩ : ∃ sd, sd = sdN q := ⟨_, rfl⟩
    rw [← hsd] at HB ⊢
    obtain ⟨W0, hW0⟩ : ∃ W0, W0 = w.alloc (.cells #[.int .i64 oi, .int .i64 oc, .int .u8 sd, .int .i64 op, .int .i64 oz] 54) := ⟨_, rfl⟩
    have h5 := Five.new w (.int .i64 oi) (.int .i64 oc) (.int .u8 sd) (.int .i64 op) (.int .i64 oz) 54
    have oW : Only (fun _ => False) w W0 := by rw [hW0]; exact (Only.refl _ w).alloc _
    rw [← hW0] at h5
    have H5 := Lib.hid h5
    have HOW := Lib.hid oW
    have HN := Lib.hid hn
    unfold ordV
    simp only
    have HSD := Lib.hid hsd
    rw [← hn]
    clear hown hcell hgg h5 oW hn hsd hs
    go_enter Try.func132, Try.ntmps132
    go_wp2_with fail
    rw [← hW0]
    clear hW0
    go_loopw [5] (fun s5 wr => ∃ k : Nat, k ≤ n ∧ s5 = .int .i64 k ∧ Only (fun _ => False) W0 wr ∧ ∀ x ∈ L.take k, sgn q * x.p ≤ sgn q * op) (fun s _ => n - (intOf s).toNat)
    case atStart => exact ⟨0, Nat.zero_le _, rfl, Only.refl _ _, by simp⟩
    case round =>
      obtain ⟨k, hk, rfl, ho, hpre⟩ := hrel
      have h5 := H5.out.only ho id
      have y2 := h5.c2.cell
      have y3 := h5.c3.cell
      have yz := cell_lt y3
      have HO := Lib.hid ho
      have HPRE := Lib.hid hpre
      clear ho hpre h5
      by_cases hlt : k < n
      · have tj : decide (k < n) = true := by simpa using hlt
        obtain ⟨x, hx⟩ : ∃ x, L[k]? = some x := ⟨_, List.getElem?_eq_getElem (by rw [← HN.out]; exact hlt)⟩
        obtain ⟨g', eg, hg, b0, b1, b2, b3, b4⟩ := HA.out.elt (HOW.out.trans HO.out) hx
        obtain rfl : g = g' := by injection eg with eg; injection eg with eg
        clear eg b0 b1 b2 b4
        have ij : (0 : Int) ≤ (k : Int) ∧ (k : Int) < (n : Int) := by omega
        have w1 : IntKind.i64.wrap ((k : Int) + 1) = (k : Int) + 1 := by rw [IntKind.wrap_i64]; omega
        have hnext : sgn q * x.p ≤ sgn q * op → ∀ y ∈ L.take (k + 1), sgn q * y.p ≤ sgn q * op := fun h y hy => by
          rw [List.take_add_one, hx] at hy
          simp only [Option.toList_some, List.mem_append, List.mem_singleton] at hy
          rcases hy with hy | rfl
          · exact HPRE.out y hy
          · exact h
        have HNEXT := Lib.hid hnext
        have HX := Lib.hid hx
        obtain ⟨xi, xc, xs, xp, xq⟩ := x
        simp only at b3
        by_cases he : xp = op
        · subst he
          have t1 : (xp == xp) = true := by simp
          clear hx hnext
          go_wp2_with fail
          go_quiet (fail)
          go_wp2_with fail
          go_roundw
          case rel => exact ⟨k + 1, by omega, by go_num, by have := HO.out; repeat' (first | (with_reducible exact Only.refl _ _) | (with_reducible assumption) | (refine Only.of_none ?_; with_reducible assumption) | (with_reducible refine Only.drewN ?_ _) | (with_reducible refine Only.drew ?_) | (with_reducible refine Only.alloc ?_ _) | (with_reducible refine Only.setCell ?_ ?_ _) | (with_reducible refine Only.then0 ?_ (by with_reducible assumption)) | (with_reducible refine Only.thenN ?_ (by with_reducible assumption) ?_) | (with_reducible refine Only.trans ?_ (by with_reducible assumption)) | (refine .inl ?_; first | rfl | (simp; done) | (simp [Ar.blk]; done)) | (refine .inr ?_; first | omega | (simp; done) | (simp; omega) | exact Only.size (by with_reducible assumption) | (refine Nat.le_trans (Only.size (by with_reducible assumption)) ?_; simp; done))), HNEXT.out (Int.le_refl _)⟩
          case measure => simp [intOf]; omega
        · have t1 : (xp == op) = false := by simpa using he
          have hbb : decide (sgn q * xp < sgn q * op) = decide (sgn q * xp ≤ sgn q * op) := by
            rw [Bool.eq_iff_iff]
            simp only [decide_eq_true_eq]
            constructor
            · intro h; omega
            · intro h
              have : sgn q * xp ≠ sgn q * op := fun e => he (sg_inj (sgn_or q) e)
              omega
          have HB2 := fun W => (HB.out W xp)
          rw [hbb] at HB2
          by_cases hle : sgn q * xp ≤ sgn q * op
          · rw [decide_eq_true hle] at HB2
            have HB3 := fun W => Lib.hid (HB2 W)
            have HLE := Lib.hid hle
            clear hx hnext he hbb hle HB2
            go_wp2_with fail
            go_quiet ((go_at_call 126; exact Calls.quiet_of_same ((HB3 _).out.mono fun e w' ⟨h1, h2⟩ => ⟨h1, h2.symm⟩)))
            go_wp2_with fail
            go_roundw
            case rel => exact ⟨k + 1, by omega, by go_num, by have := HO.out; repeat' (first | (with_reducible exact Only.refl _ _) | (with_reducible assumption) | (refine Only.of_none ?_; with_reducible assumption) | (with_reducible refine Only.drewN ?_ _) | (with_reducible refine Only.drew ?_) | (with_reducible refine Only.alloc ?_ _) | (with_reducible refine Only.setCell ?_ ?_ _) | (with_reducible refine Only.then0 ?_ (by with_reducible assumption)) | (with_reducible refine Only.thenN ?_ (by with_reducible assumption) ?_) | (with_reducible refine Only.trans ?_ (by with_reducible assumption)) | (refine .inl ?_; first | rfl | (simp; done) | (simp [Ar.blk]; done)) | (refine .inr ?_; first | omega | (simp; done) | (simp; omega) | exact Only.size (by with_reducible assumption) | (refine Nat.le_trans (Only.size (by with_reducible assumption)) ?_; simp; done))), HNEXT.out HLE.out⟩
            case measure => simp [intOf]; omega
          · rw [decide_eq_false hle] at HB2
            have HB3 := fun W => Lib.hid (HB2 W)
            have hins := insL_at (o := ⟨oi, oc, sd, op, oz⟩) (k := k) HPRE.out (fun y hy => by rw [HX.out] at hy; injection hy with hy; rw [← hy]; exact hle) HS.out
            have HINS := Lib.hid hins
            clear hx hnext he hbb hle HB2 hins
            go_wp2_with fail
            go_quiet ((go_at_call 126; exact Calls.quiet_of_same ((HB3 _).out.mono fun e w' ⟨h1, h2⟩ => ⟨h1, h2.symm⟩)))
            clear tj ij w1 t1 HB3 b3 hlt
            have hA : ∃ A, (if cap = k then some (⟨g, 0, none⟩ : Addr) else some ⟨g, k * 5, none⟩) = some A ∧ ∀ W (o : Only (fun _ => False) w W), ∀ j u, (ordC (L.drop k))[j]? = some u → W.cell? (A.add j) = some u := by
              have hlen := ordC_length (L.drop k)
              rw [List.length_drop, ← HN.out] at hlen
              by_cases e : cap = k
              · refine ⟨_, if_pos e, fun W o j u hu => ?_⟩
                have := (List.getElem?_eq_some_iff.1 hu).1
                omega
              · refine ⟨_, if_neg e, fun W o j u hu => ?_⟩
                refine row_part HOWN.out o k (L.length - k) j u ?_
                rw [← ordC_drop, List.take_of_length_le (by rw [hlen, HN.out]; exact Nat.le_refl _)]; exact hu
            obtain ⟨A, hA, hsrc⟩ := hA
            have HSRC := Lib.hid hsrc
            have HFST := Lib.hid (show ∀ W, Only (fun _ => False) w W → ∀ A, some (⟨g, 0, none⟩ : Addr) = some A → ∀ j u, (ordC (L.take k))[j]? = some u → W.cell? (A.add j) = some u from fun W o A e j u hu => by obtain rfl := Option.some.inj e; rw [ordC_take] at hu; exact row_first HOWN.out o k j u hu)
            have hkn : (k : Int) ≤ (cap : Int) := by omega
            have hkn2 : (k : Int) ≤ (n : Int) := by omega
            have hkn4 : k ≤ cap := by omega
            clear hsrc
            generalize hwq : wr.drewN _ = wq
            have oq : Only (fun _ => False) w wq := by rw [← hwq]; exact (HOW.out.trans HO.out).drewN _
            have h6 := H5.out.only (show Only (fun _ => False) W0 wq by rw [← hwq]; exact HO.out.drewN _) id
            obtain ⟨b1, d1, W1, b2, d2, W2, b3, m3, d3, W3, r1, r2, r3, hfin, o3, o1⟩ := with_run oq k (by rw [← HN.out]; exact hk) (by rw [← HN.out]; exact hl) ⟨oi, oc, sd, op, oz⟩ (some ⟨g, 0, none⟩) (some A) cap (cap - k) HFST.out (fun e => by cases e) (fun W o B e => by obtain rfl := Option.some.inj e; exact HSRC.out W o) (fun e => by cases e)
            have h7 := h6.only o1 id
            have y0 := h7.c0.cell; have y1 := h7.c1.cell; have y2 := h7.c2.cell; have y3 := h7.c3.cell; have y4 := h7.c4.cell
            have yz := cell_lt y0
            simp only [← HN.out] at r1 r2 r3
            have HF := Lib.hid (⟨hfin, o3⟩ : _ ∧ _)
            clear hfin o3 o1 h6 h7 oq hwq
            go_wp2_with (first | (at_builtin; refine wpList_append_run rfl (.tmp 35) (.tmp 38) 52 rfl _ _ _ rfl rfl r1 ?_) | (at_builtin; refine wpList_append_run rfl (.tmp 40) (.tmp 42) 52 rfl _ _ _ rfl rfl r2 ?_) | (at_builtin; refine wpList_append_run rfl (.tmp 44) (.tmp 47) 52 rfl _ _ _ rfl rfl r3 ?_; clear r1 r2 r3))
            go_returns
            rw [HINS.out]
            exact ⟨_, rfl, HF.out⟩
      · have tj : decide (k < n) = false := by simpa using hlt
        have hins := insL_at (o := ⟨oi, oc, sd, op, oz⟩) (k := k) HPRE.out (fun y hy => by have := (List.getElem?_eq_some_iff.1 hy).1; rw [← HN.out] at this; omega) HS.out
        have HINS := Lib.hid hins
        clear hins
        go_wp2_with fail
        go_quiet (fail)
        have hA : ∃ A, (if cap = k then some (⟨g, 0, none⟩ : Addr) else some ⟨g, k * 5, none⟩) = some A ∧ ∀ W (o : Only (fun _ => False) w W), ∀ j u, (ordC (L.drop k))[j]? = some u → W.cell? (A.add j) = some u := by
          have hlen := ordC_length (L.drop k)
          rw [List.length_drop, ← HN.out] at hlen
          by_cases e : cap = k
          · refine ⟨_, if_pos e, fun W o j u hu => ?_⟩
            have := (List.getElem?_eq_some_iff.1 hu).1
            omega
          · refine ⟨_, if_neg e, fun W o j u hu => ?_⟩
            refine row_part HOWN.out o k (L.length - k) j u ?_
            rw [← ordC_drop, List.take_of_length_le (by rw [hlen, HN.out]; exact Nat.le_refl _)]; exact hu
        obtain ⟨A, hA, hsrc⟩ := hA
        have HSRC := Lib.hid hsrc
        have HFST := Lib.hid (show ∀ W, Only (fun _ => False) w W → ∀ A, some (⟨g, 0, none⟩ : Addr) = some A → ∀ j u, (ordC (L.take k))[j]? = some u → W.cell? (A.add j) = some u from fun W o A e j u hu => by obtain rfl := Option.some.inj e; rw [ordC_take] at hu; exact row_first HOWN.out o k j u hu)
        have hkn : (k : Int) ≤ (cap : Int) := by omega
        have hkn2 : (k : Int) ≤ (n : Int) := by omega
        have hkn4 : k ≤ cap := by omega
        clear hsrc
        generalize hwq : wr.drewN _ = wq
        have oq : Only (fun _ => False) w wq := by rw [← hwq]; exact (HOW.out.trans HO.out).drewN _
        have h6 := H5.out.only (show Only (fun _ => False) W0 wq by rw [← hwq]; exact HO.out.drewN _) id
        obtain ⟨b1, d1, W1, b2, d2, W2, b3, m3, d3, W3, r1, r2, r3, hfin, o3, o1⟩ := with_run oq k (by rw [← HN.out]; exact hk) (by rw [← HN.out]; exact hl) ⟨oi, oc, sd, op, oz⟩ (some ⟨g, 0, none⟩) (some A) cap (cap - k) HFST.out (fun e => by cases e) (fun W o B e => by obtain rfl := Option.some.inj e; exact HSRC.out W o) (fun e => by cases e)
        have h7 := h6.only o1 id
        have y0 := h7.c0.cell; have y1 := h7.c1.cell; have y2 := h7.c2.cell; have y3 := h7.c3.cell; have y4 := h7.c4.cell
        have yz := cell_lt y0
        simp only [← HN.out] at r1 r2 r3
        have HF := Lib.hid (⟨hfin, o3⟩ : _ ∧ _)
        clear hfin o3 o1 h6 h7 oq hwq
        go_wp2_with (first | (at_builtin; refine wpList_append_run rfl (.tmp 35) (.tmp 38) 52 rfl _ _ _ rfl rfl r1 ?_) | (at_builtin; refine wpList_append_run rfl (.tmp 40) (.tmp 42) 52 rfl _ _ _ rfl rfl r2 ?_) | (at_builtin; refine wpList_append_run rfl (.tmp 44) (.tmp 47) 52 rfl _ _ _ rfl rfl r3 ?_; clear r1 r2 r3))
        go_returns
        rw [HINS.out]
        exact ⟨_, rfl, HF.out⟩
end Go.Proofs.Ytilngakgofjmpaa
