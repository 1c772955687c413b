/- The document's book: Reduce. Conditions: a book as its New lays it. -/
import Derived.Test.YtkglplngnjgnhaaR6h
namespace Go.Proofs.Ytkglplngnjgnhaa
set_option linter.unusedVariables false
set_option linter.unusedSimpArgs false
open Go.RowKit Go.Shelf
open Od (OrdR)

theorem ordC_set : ∀ {L : List OrdR} {j : Nat} (o : OrdR), j < L.length → ordC (L.set j o) = (((((ordC L).set (j * 5) (.int .i64 o.i)).set (j * 5 + 1) (.int .i64 o.c)).set (j * 5 + 2) (.int .u8 o.s)).set (j * 5 + 3) (.int .i64 o.p)).set (j * 5 + 4) (.int .i64 o.q)
  | [], j, o, h => by simp at h
  | y :: t, 0, o, _ => rfl
  | y :: t, j + 1, o, h => by
    have ih := ordC_set (L := t) (j := j) o (by simpa using h)
    have e0 : (j + 1) * 5 = j * 5 + 5 := by omega
    have e1 : j * 5 + 5 + 1 = (j * 5 + 1) + 5 := by omega
    have e2 : j * 5 + 5 + 2 = (j * 5 + 2) + 5 := by omega
    have e3 : j * 5 + 5 + 3 = (j * 5 + 3) + 5 := by omega
    have e4 : j * 5 + 5 + 4 = (j * 5 + 4) + 5 := by omega
    rw [e0, e1, e2, e3, e4]
    show ordC (y :: t.set j o) = _
    have c : ∀ l : List OrdR, ordC (y :: l) = .int .i64 y.i :: .int .i64 y.c :: .int .u8 y.s :: .int .i64 y.p :: .int .i64 y.q :: ordC l := fun l => rfl
    rw [c, c, ih]
    rfl
theorem set_at {L : List OrdR} {j : Nat} {o : OrdR} {k : Int} (x : OrdR) (hj : L[j]? = some o) (hk : o.i = k) (hn : (L.map OrdR.i).Nodup) : setL k x L = L.set j x := by
  have hsp := split_at hj
  have hjl := (List.getElem?_eq_some_iff.1 hj).1
  have e : L.set j x = L.take j ++ x :: L.drop (j + 1) := by
    rw [List.set_eq_take_append_cons_drop, if_pos hjl]
  rw [e]
  conv => lhs; rw [hsp]
  rw [hsp, List.map_append, List.map_cons] at hn
  have h2 := List.nodup_append.1 hn
  have h3 := List.nodup_cons.1 h2.2.1
  unfold setL
  rw [List.map_append, List.map_cons, if_pos hk]
  congr 1
  · refine (List.map_congr_left fun y hy => ?_).trans (List.map_id _)
    have : y.i ≠ o.i := fun e => h2.2.2 _ (List.mem_map.2 ⟨y, hy, rfl⟩) _ (by simp) e
    rw [if_neg (by rw [← hk]; exact this)]; rfl
  · congr 1
    refine (List.map_congr_left fun y hy => ?_).trans (List.map_id _)
    have : y.i ≠ o.i := fun e => h3.1 (List.mem_map.2 ⟨y, hy, e⟩)
    rw [if_neg (by rw [← hk]; exact this)]; rfl
theorem redS_at {l : Bool → List OrdR} (h : ((l false ++ l true).map OrdR.i).Nodup) {q : Bool} {j : Nat} {o : OrdR} {k : Int} (x : OrdR) (hj : (l q)[j]? = some o) (hk : o.i = k) : (fun p => setL k x (l p)) = setS l q ((l q).set j x) := funext fun p => by
  by_cases e : p = q
  · subst e; rw [setS_same]; exact set_at x hj hk (ids_one h p)
  · rw [setS_other e]
    exact setL_not fun y hy => by rw [← hk]; exact ids_ne h e (List.mem_of_getElem? hj) hy

section
variable {w : World} {r most room : Nat} {vv : Bool → Value} {T : Nat → Prop} {l : Bool → List OrdR}
/-- An order of a side is written over. -/
theorem R6M.over (h : R6M w r vv most room l) {W : World} (o : Only (fun _ => False) w W) (q : Bool) {g j : Nat} (hg : (vv q).ownBlock = some g) (hj : j < (l q).length) (x : OrdR) {v : Value} {e : Ending} (he : e = .returned v) :
    R6Post w r (R6T r vv) most room (setS l q ((l q).set j x)) v e (((((W.setCell ⟨g, j * 5, none⟩ (.int .i64 x.i)).setCell ⟨g, j * 5 + 1, none⟩ (.int .i64 x.c)).setCell ⟨g, j * 5 + 2, none⟩ (.int .u8 x.s)).setCell ⟨g, j * 5 + 3, none⟩ (.int .i64 x.p)).setCell ⟨g, j * 5 + 4, none⟩ (.int .i64 x.q)) := by
  have hW := h.only o (fun _ _ => id)
  have oS : Only (· = g) W (((((W.setCell ⟨g, j * 5, none⟩ (.int .i64 x.i)).setCell ⟨g, j * 5 + 1, none⟩ (.int .i64 x.c)).setCell ⟨g, j * 5 + 2, none⟩ (.int .u8 x.s)).setCell ⟨g, j * 5 + 3, none⟩ (.int .i64 x.p)).setCell ⟨g, j * 5 + 4, none⟩ (.int .i64 x.q)) :=
    (((((Only.refl (· = g) W).setCell (.inl rfl) _).setCell (.inl rfl) _).setCell (.inl rfl) _).setCell (.inl rfl) _).setCell (.inl rfl) _
  have hrg : ¬ (r = g) := fun e => h.sep q g hg e.symm
  have hoth : ∀ k, k ≠ q → (vv k).ownBlock ≠ some g := fun k hk e => by
    cases q <;> cases k <;> first | exact absurd rfl hk | exact h.two g hg e | exact h.two g e hg
  refine ⟨R6T r vv, he, ⟨vv, ⟨hW.c0.only oS hrg, hW.c1.only oS hrg, hW.c2.only oS hrg, hW.c3.only oS hrg, fun k => ?_, h.sep, h.two⟩, rfl⟩, (Only.of_none o).trans (oS.mono fun i _ hi => .inr ⟨q, by rw [hi]; exact hg⟩), fun i hi => .inl hi⟩
  by_cases e : k = q
  · subst e
    rw [setS_same, List.length_set, ordC_set x hj]
    have hl := (hW.own k).1
    exact own_set (own_set (own_set (own_set (own_set (hW.own k) hg (by omega) _) hg (by omega) _) hg (by omega) _) hg (by omega) _) hg (by omega) _
  · rw [setS_other e]
    exact ownsRow_apart (hW.own k) oS (fun i hi e2 => by subst e2; exact hoth k e hi)
set_option maxRecDepth 100000 in
set_option maxHeartbeats 8000000 in
theorem r6_reduce (h : R6M w r vv most room l) (g : Good most room l) (k m : Int) :
    Calls Try.prog 65 #[.pointer (some ⟨r, 0, none⟩), .int .i64 k, .int .i64 m] w (R6Post w r (R6T r vv) most room (redS l k m) (.int .i64 (redE l k m))) := by
  have hz : ∀ q, (l q).length ≤ 1000000 := fun q => by have := g.le q; omega
  have HG := Lib.hid fun W (ow : Only (fun _ => False) w W) => r6_get (h.only ow fun _ _ => id) hz k
  cases hg : getL l k with
  | none =>
    have e1 : redE l k m = 63 := by unfold redE; rw [hg]
    have e2 : redS l k m = l := by unfold redS; rw [hg]
    rw [e1, e2]
    rw [getV_none hg] at HG
    refine Calls.mono (R := fun e w' => e = .returned (.int .i64 63) ∧ Only (fun _ => False) w w') ?_ (fun e w' hp => h.stay hp.1 hp.2)
    clear h g hz hg e1 e2
    go_enter Try.func65, Try.ntmps65
    go_wp2_with fail
    refine (HG.out _ (by repeat' (first | (with_reducible exact Only.refl _ _) | (with_reducible assumption) | (refine Only.of_none ?_; with_reducible assumption) | (with_reducible refine Only.drewN ?_ _) | (with_reducible refine Only.drew ?_) | (with_reducible refine Only.alloc ?_ _) | (with_reducible refine Only.setCell ?_ ?_ _) | (with_reducible refine Only.then0 ?_ (by with_reducible assumption)) | (with_reducible refine Only.thenN ?_ (by with_reducible assumption) ?_) | (with_reducible refine Only.trans ?_ (by with_reducible assumption)) | (refine .inl ?_; first | rfl | (simp; done) | (simp [Ar.blk]; done)) | (refine .inr ?_; first | omega | (simp; done) | (simp; omega) | exact Only.size (by with_reducible assumption) | (refine Nat.le_trans (Only.size (by with_reducible assumption)) ?_; simp; done))))).mono ?_
    rintro e w1 ⟨rfl, o1⟩
    go_wp2_with fail
    go_returns
    exact ⟨rfl, by repeat' (first | (with_reducible exact Only.refl _ _) | (with_reducible assumption) | (refine Only.of_none ?_; with_reducible assumption) | (with_reducible refine Only.drewN ?_ _) | (with_reducible refine Only.drew ?_) | (with_reducible refine Only.alloc ?_ _) | (with_reducible refine Only.setCell ?_ ?_ _) | (with_reducible refine Only.then0 ?_ (by with_reducible assumption)) | (with_reducible refine Only.thenN ?_ (by with_reducible assumption) ?_) | (with_reducible refine Only.trans ?_ (by with_reducible assumption)) | (refine .inl ?_; first | rfl | (simp; done) | (simp [Ar.blk]; done)) | (refine .inr ?_; first | omega | (simp; done) | (simp; omega) | exact Only.size (by with_reducible assumption) | (refine Nat.le_trans (Only.size (by with_reducible assumption)) ?_; simp; done)))⟩
  | some o =>
    rw [getV_some hg] at HG
    by_cases hbad : m < 1 ∨ o.q ≤ m
    · have e1 : redE l k m = 64 := by unfold redE; rw [hg]; simp only; rw [if_pos hbad]
      have e2 : redS l k m = l := by unfold redS; rw [hg]; simp only; rw [if_pos hbad]
      rw [e1, e2]
      refine Calls.mono (R := fun e w' => e = .returned (.int .i64 64) ∧ Only (fun _ => False) w w') ?_ (fun e w' hp => h.stay hp.1 hp.2)
      obtain ⟨oi, oc, os, op, oq⟩ := o
      simp only at hbad HG
      clear h g hz hg e1 e2
      by_cases h1 : m < 1
      · have t1 : decide (m < 1) = true := by simpa using h1
        clear hbad h1
        go_enter Try.func65, Try.ntmps65
        go_wp2_with fail
        refine (HG.out _ (by repeat' (first | (with_reducible exact Only.refl _ _) | (with_reducible assumption) | (refine Only.of_none ?_; with_reducible assumption) | (with_reducible refine Only.drewN ?_ _) | (with_reducible refine Only.drew ?_) | (with_reducible refine Only.alloc ?_ _) | (with_reducible refine Only.setCell ?_ ?_ _) | (with_reducible refine Only.then0 ?_ (by with_reducible assumption)) | (with_reducible refine Only.thenN ?_ (by with_reducible assumption) ?_) | (with_reducible refine Only.trans ?_ (by with_reducible assumption)) | (refine .inl ?_; first | rfl | (simp; done) | (simp [Ar.blk]; done)) | (refine .inr ?_; first | omega | (simp; done) | (simp; omega) | exact Only.size (by with_reducible assumption) | (refine Nat.le_trans (Only.size (by with_reducible assumption)) ?_; simp; done))))).mono ?_
        rintro e w1 ⟨rfl, o1⟩
        go_wp2_with fail
        go_returns
        exact ⟨rfl, by repeat' (first | (with_reducible exact Only.refl _ _) | (with_reducible assumption) | (refine Only.of_none ?_; with_reducible assumption) | (with_reducible refine Only.drewN ?_ _) | (with_reducible refine Only.drew ?_) | (with_reducible refine Only.alloc ?_ _) | (with_reducible refine Only.setCell ?_ ?_ _) | (with_reducible refine Only.then0 ?_ (by with_reducible assumption)) | (with_reducible refine Only.thenN ?_ (by with_reducible assumption) ?_) | (with_reducible refine Only.trans ?_ (by with_reducible assumption)) | (refine .inl ?_; first | rfl | (simp; done) | (simp [Ar.blk]; done)) | (refine .inr ?_; first | omega | (simp; done) | (simp; omega) | exact Only.size (by with_reducible assumption) | (refine Nat.le_trans (Only.size (by with_reducible assumption)) ?_; simp; done)))⟩
      · have t1 : decide (m < 1) = false := by simpa using h1
        have t2 : decide (oq ≤ m) = true := by simp; omega
        clear hbad h1
        go_enter Try.func65, Try.ntmps65
        go_wp2_with fail
        refine (HG.out _ (by repeat' (first | (with_reducible exact Only.refl _ _) | (with_reducible assumption) | (refine Only.of_none ?_; with_reducible assumption) | (with_reducible refine Only.drewN ?_ _) | (with_reducible refine Only.drew ?_) | (with_reducible refine Only.alloc ?_ _) | (with_reducible refine Only.setCell ?_ ?_ _) | (with_reducible refine Only.then0 ?_ (by with_reducible assumption)) | (with_reducible refine Only.thenN ?_ (by with_reducible assumption) ?_) | (with_reducible refine Only.trans ?_ (by with_reducible assumption)) | (refine .inl ?_; first | rfl | (simp; done) | (simp [Ar.blk]; done)) | (refine .inr ?_; first | omega | (simp; done) | (simp; omega) | exact Only.size (by with_reducible assumption) | (refine Nat.le_trans (Only.size (by with_reducible assumption)) ?_; simp; done))))).mono ?_
        rintro e w1 ⟨rfl, o1⟩
        go_wp2_with fail
        go_returns
        exact ⟨rfl, by repeat' (first | (with_reducible exact Only.refl _ _) | (with_reducible assumption) | (refine Only.of_none ?_; with_reducible assumption) | (with_reducible refine Only.drewN ?_ _) | (with_reducible refine Only.drew ?_) | (with_reducible refine Only.alloc ?_ _) | (with_reducible refine Only.setCell ?_ ?_ _) | (with_reducible refine Only.then0 ?_ (by with_reducible assumption)) | (with_reducible refine Only.thenN ?_ (by with_reducible assumption) ?_) | (with_reducible refine Only.trans ?_ (by with_reducible assumption)) | (refine .inl ?_; first | rfl | (simp; done) | (simp [Ar.blk]; done)) | (refine .inr ?_; first | omega | (simp; done) | (simp; omega) | exact Only.size (by with_reducible assumption) | (refine Nat.le_trans (Only.size (by with_reducible assumption)) ?_; simp; done)))⟩
    · obtain ⟨hi, hat⟩ := getL_at hg
      have e1 : redE l k m = 0 := by unfold redE; rw [hg]; simp only; rw [if_neg hbad]
      have e2 : redS l k m = fun q => setL k (less o m) (l q) := by unfold redS; rw [hg]; simp only; rw [if_neg hbad]
      rw [e1, e2]
      have hloc : ∃ (q : Bool) (j : Nat), (l q)[j]? = some o ∧ ∀ x ∈ (l q).take j, x.i ≠ k := by
        rcases hat with ⟨j, h1, h2⟩ | ⟨_, j, h1, h2⟩
        · exact ⟨false, j, h1, h2⟩
        · exact ⟨true, j, h1, h2⟩
      obtain ⟨q, j, hj, hno⟩ := hloc
      have hside := g.side q o (List.mem_of_getElem? hj)
      rw [redS_at g.ids (less o m) hj hi]
      have hjl := (List.getElem?_eq_some_iff.1 hj).1
      have hoq := (g.qs q o (List.mem_of_getElem? hj))
      obtain ⟨a, cap, hvv, hcap, hoa⟩ := OrdAt.of_own (h.own q)
      obtain ⟨gg, cap', hvv', hcap', _, hgg, hcells⟩ := ownC (h.own q) (by omega)
      have hgb : (vv q).ownBlock = some gg := by rw [hvv']; rfl
      obtain ⟨rfl, rfl⟩ : a = some ⟨gg, 0, none⟩ ∧ cap = cap' := by rw [hvv] at hvv'; injection hvv' with x1 x2 x3; exact ⟨x1, x3⟩
      have HPL := Lib.hid fun W (ow : Only (fun _ => False) w W) => r6_place_any (w := W) (l q) (some ⟨gg, 0, none⟩) cap (hoa.only ow fun _ _ => id) (hz q) k (j : Nat) (.inl ⟨j, o, rfl, hj, hi, hno⟩)
      have HP := Lib.hid fun W (ow : Only (fun _ => False) w W) => h.over ow q hgb hjl (less o m) (v := .int .i64 0) (e := .returned (.int .i64 0)) rfl
      obtain ⟨q0, q1, q2, q3, q4⟩ := ordC_at hj
      have Q0 := hcells _ _ q0; have Q1 := hcells _ _ q1; have Q2 := hcells _ _ q2; have Q3 := hcells _ _ q3; have Q4 := hcells _ _ q4
      rw [Nat.add_zero] at Q0
      have hcq := h.cq q
      have hlen := hz q
      rw [hvv] at hcq
      obtain ⟨n, hn⟩ : ∃ n, n = (l q).length := ⟨_, rfl⟩
      rw [← hn] at hcq HPL hjl hcap hlen
      obtain ⟨oi, oc, os, op, oq⟩ := o
      unfold less at HP
      unfold less
      simp only at HG HP hside hoq Q0 Q1 Q2 Q3 Q4 hbad ⊢
      have HQ := Lib.hid (⟨Q0, Q1, Q2, Q3, Q4⟩ : _ ∧ _ ∧ _ ∧ _ ∧ _)
      have t1 : decide (m < 1) = false := by simp; omega
      have t2 : decide (oq ≤ m) = false := by simp; omega
      have w1 : IntKind.i64.wrap (oq - m) = oq - m := by rw [IntKind.wrap_i64]; omega
      have ij : (0 : Int) ≤ (j : Int) ∧ (j : Int) < (n : Int) := by omega
      clear hg hat hz e1 e2 hi hno hoa hvv hvv' hcap hcap' hn hj g hbad hgb Q0 Q1 Q2 Q3 Q4 q0 q1 q2 q3 q4 hcells hlen hoq
      obtain ⟨M, hM⟩ : ∃ M, setS l q ((l q).set j ⟨oi, oc, os, op, oq - m⟩) = M := ⟨_, rfl⟩
      rw [hM] at HP ⊢
      clear hM hjl
      cases q with
      | false =>
        subst hside
        have HR := Lib.hid (show Cell w r 2 (.slice (some ⟨gg, 0, none⟩) n cap) from hcq)
        have HG := Lib.hid fun W ow => (show Calls Try.prog 66 #[.pointer (some ⟨r, 0, none⟩), .int .i64 k] W (fun e w' => e = .returned (.tuple #[.agg #[.int .i64 oi, .int .i64 oc, .int .u8 1, .int .i64 op, .int .i64 oq], .bool true]) ∧ Only (fun _ => False) W w') from HG.out W ow)
        have HP := Lib.hid fun W ow => (show R6Post w r (R6T r vv) most room M (.int .i64 0) (.returned (.int .i64 0)) (((((W.setCell ⟨gg, j * 5, none⟩ (.int .i64 oi)).setCell ⟨gg, j * 5 + 1, none⟩ (.int .i64 oc)).setCell ⟨gg, j * 5 + 2, none⟩ (.int .u8 1)).setCell ⟨gg, j * 5 + 3, none⟩ (.int .i64 op)).setCell ⟨gg, j * 5 + 4, none⟩ (.int .i64 (oq - m))) from HP.out W ow)
        clear hcq
        go_enter Try.func65, Try.ntmps65
        go_wp2_with fail
        refine (HG.out _ (by repeat' (first | (with_reducible exact Only.refl _ _) | (with_reducible assumption) | (refine Only.of_none ?_; with_reducible assumption) | (with_reducible refine Only.drewN ?_ _) | (with_reducible refine Only.drew ?_) | (with_reducible refine Only.alloc ?_ _) | (with_reducible refine Only.setCell ?_ ?_ _) | (with_reducible refine Only.then0 ?_ (by with_reducible assumption)) | (with_reducible refine Only.thenN ?_ (by with_reducible assumption) ?_) | (with_reducible refine Only.trans ?_ (by with_reducible assumption)) | (refine .inl ?_; first | rfl | (simp; done) | (simp [Ar.blk]; done)) | (refine .inr ?_; first | omega | (simp; done) | (simp; omega) | exact Only.size (by with_reducible assumption) | (refine Nat.le_trans (Only.size (by with_reducible assumption)) ?_; simp; done))))).mono ?_
        rintro e w1 ⟨rfl, o1⟩
        have HO1 := Lib.hid o1
        clear HG
        go_wp2_with fail
        have O8 : Only (fun _ => False) w (w1.alloc (.cells #[.int .i64 oi, .int .i64 oc, .int .u8 1, .int .i64 op, .int .i64 (oq - m)] 54)) := o1.alloc _
        have h5 := Five.new w1 (.int .i64 oi) (.int .i64 oc) (.int .u8 1) (.int .i64 op) (.int .i64 (oq - m)) 54
        have kz1 : gg < w1.heap.size := Nat.lt_of_lt_of_le hgg o1.size
        have zr1 : r < w1.heap.size := Nat.lt_of_lt_of_le HR.out.lt o1.size
        obtain ⟨g, hg⟩ : ∃ g, w1.heap.size = g := ⟨_, rfl⟩
        rw [hg] at h5 kz1 zr1
        try rw [hg]
        obtain ⟨W3, hW3⟩ : ∃ W3, w1.alloc (.cells #[.int .i64 oi, .int .i64 oc, .int .u8 1, .int .i64 op, .int .i64 (oq - m)] 54) = W3 := ⟨_, rfl⟩
        rw [hW3] at h5 O8 ⊢
        have cr := (HR.out.only O8 id).cell
        have zr := cell_lt cr
        have k0 := (HQ.out.1.only O8 id).cell; have k1 := (HQ.out.2.1.only O8 id).cell; have k2 := (HQ.out.2.2.1.only O8 id).cell; have k3 := (HQ.out.2.2.2.1.only O8 id).cell; have k4 := (HQ.out.2.2.2.2.only O8 id).cell
        have f0 := (HQ.out.1.only O8 id).free; have f1 := (HQ.out.2.1.only O8 id).free; have f2 := (HQ.out.2.2.1.only O8 id).free; have f3 := (HQ.out.2.2.2.1.only O8 id).free; have f4 := (HQ.out.2.2.2.2.only O8 id).free
        have kz := cell_lt k0
        have y0 := h5.c0.cell; have y1 := h5.c1.cell; have y2 := h5.c2.cell; have y3 := h5.c3.cell; have y4 := h5.c4.cell; have yz := cell_lt y0
        have HO8 := Lib.hid O8
        have HX := Lib.hid hW3
        clear O8 o1 hW3 h5 hg
        have HPL3 := Lib.hid (HPL.out _ HO8.out.drew)
        go_still_tail 12, (by kernel_rfl)
        refine wpStill_step (fun K hK => ?_)
        go_simp
        refine ⟨_, HPL3.out.mono (fun e w6 ⟨he, hw⟩ => ⟨he, hw.symm⟩), hK _ ?_⟩
        clear hK K
        repeat still_step
        try refine wpStill_nil ?_
        change wpList _ _ _ _ _ W3.drew
        go_wp2_with fail
        go_returns
        exact HP.out _ HO8.out.drew
      | true =>
        subst hside
        have HR := Lib.hid (show Cell w r 3 (.slice (some ⟨gg, 0, none⟩) n cap) from hcq)
        have HG := Lib.hid fun W ow => (show Calls Try.prog 66 #[.pointer (some ⟨r, 0, none⟩), .int .i64 k] W (fun e w' => e = .returned (.tuple #[.agg #[.int .i64 oi, .int .i64 oc, .int .u8 2, .int .i64 op, .int .i64 oq], .bool true]) ∧ Only (fun _ => False) W w') from HG.out W ow)
        have HP := Lib.hid fun W ow => (show R6Post w r (R6T r vv) most room M (.int .i64 0) (.returned (.int .i64 0)) (((((W.setCell ⟨gg, j * 5, none⟩ (.int .i64 oi)).setCell ⟨gg, j * 5 + 1, none⟩ (.int .i64 oc)).setCell ⟨gg, j * 5 + 2, none⟩ (.int .u8 2)).setCell ⟨gg, j * 5 + 3, none⟩ (.int .i64 op)).setCell ⟨gg, j * 5 + 4, none⟩ (.int .i64 (oq - m))) from HP.out W ow)
        clear hcq
        go_enter Try.func65, Try.ntmps65
        go_wp2_with fail
        refine (HG.out _ (by repeat' (first | (with_reducible exact Only.refl _ _) | (with_reducible assumption) | (refine Only.of_none ?_; with_reducible assumption) | (with_reducible refine Only.drewN ?_ _) | (with_reducible refine Only.drew ?_) | (with_reducible refine Only.alloc ?_ _) | (with_reducible refine Only.setCell ?_ ?_ _) | (with_reducible refine Only.then0 ?_ (by with_reducible assumption)) | (with_reducible refine Only.thenN ?_ (by with_reducible assumption) ?_) | (with_reducible refine Only.trans ?_ (by with_reducible assumption)) | (refine .inl ?_; first | rfl | (simp; done) | (simp [Ar.blk]; done)) | (refine .inr ?_; first | omega | (simp; done) | (simp; omega) | exact Only.size (by with_reducible assumption) | (refine Nat.le_trans (Only.size (by with_reducible assumption)) ?_; simp; done))))).mono ?_
        rintro e w1 ⟨rfl, o1⟩
        have HO1 := Lib.hid o1
        clear HG
        go_wp2_with fail
        have O8 : Only (fun _ => False) w (w1.alloc (.cells #[.int .i64 oi, .int .i64 oc, .int .u8 2, .int .i64 op, .int .i64 (oq - m)] 54)) := o1.alloc _
        have h5 := Five.new w1 (.int .i64 oi) (.int .i64 oc) (.int .u8 2) (.int .i64 op) (.int .i64 (oq - m)) 54
        have kz1 : gg < w1.heap.size := Nat.lt_of_lt_of_le hgg o1.size
        have zr1 : r < w1.heap.size := Nat.lt_of_lt_of_le HR.out.lt o1.size
        obtain ⟨g, hg⟩ : ∃ g, w1.heap.size = g := ⟨_, rfl⟩
        rw [hg] at h5 kz1 zr1
        try rw [hg]
        obtain ⟨W3, hW3⟩ : ∃ W3, w1.alloc (.cells #[.int .i64 oi, .int .i64 oc, .int .u8 2, .int .i64 op, .int .i64 (oq - m)] 54) = W3 := ⟨_, rfl⟩
        rw [hW3] at h5 O8 ⊢
        have cr := (HR.out.only O8 id).cell
        have zr := cell_lt cr
        have k0 := (HQ.out.1.only O8 id).cell; have k1 := (HQ.out.2.1.only O8 id).cell; have k2 := (HQ.out.2.2.1.only O8 id).cell; have k3 := (HQ.out.2.2.2.1.only O8 id).cell; have k4 := (HQ.out.2.2.2.2.only O8 id).cell
        have f0 := (HQ.out.1.only O8 id).free; have f1 := (HQ.out.2.1.only O8 id).free; have f2 := (HQ.out.2.2.1.only O8 id).free; have f3 := (HQ.out.2.2.2.1.only O8 id).free; have f4 := (HQ.out.2.2.2.2.only O8 id).free
        have kz := cell_lt k0
        have y0 := h5.c0.cell; have y1 := h5.c1.cell; have y2 := h5.c2.cell; have y3 := h5.c3.cell; have y4 := h5.c4.cell; have yz := cell_lt y0
        have HO8 := Lib.hid O8
        have HX := Lib.hid hW3
        clear O8 o1 hW3 h5 hg
        have HPL3 := Lib.hid (HPL.out _ HO8.out.drew)
        go_still_tail 12, (by kernel_rfl)
        refine wpStill_step (fun K hK => ?_)
        go_simp
        refine ⟨_, HPL3.out.mono (fun e w6 ⟨he, hw⟩ => ⟨he, hw.symm⟩), hK _ ?_⟩
        clear hK K
        repeat still_step
        try refine wpStill_nil ?_
        change wpList _ _ _ _ _ W3.drew
        go_wp2_with fail
        go_returns
        exact HP.out _ HO8.out.drew
end
end Go.Proofs.Ytkglplngnjgnhaa
