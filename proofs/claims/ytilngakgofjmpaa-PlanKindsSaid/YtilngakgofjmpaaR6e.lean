/- The document's book: Depth. Conditions: a book as its New lays it. -/
import Derived.Test.YtilngakgofjmpaaR6d
namespace Go.Proofs.Ytilngakgofjmpaa
set_option linter.unusedVariables false
set_option linter.unusedSimpArgs false
open Go.RowKit Go.Shelf
open Od (OrdR)

/-! ### Levels, from the front -/
theorem dep_head (o : OrdR) (t : List OrdR) : ∃ x r, depthL (o :: t) = x :: r ∧ x.p = o.p := by
  unfold depthL
  cases h : depthL t with
  | nil => exact ⟨_, _, rfl, rfl⟩
  | cons x r =>
    simp only
    split
    · exact ⟨_, _, rfl, rfl⟩
    · exact ⟨_, _, rfl, rfl⟩
theorem dep_ne {l : List OrdR} (h : l ≠ []) : ∃ x r, depthL l = x :: r := by
  cases l with
  | nil => exact absurd rfl h
  | cons o t => obtain ⟨x, r, e, _⟩ := dep_head o t; exact ⟨x, r, e⟩
theorem dep_app {b : OrdR} {B : List OrdR} : ∀ A : List OrdR, (∀ y, A.getLast? = some y → y.p ≠ b.p) → depthL (A ++ b :: B) = depthL A ++ depthL (b :: B) := by
  intro A
  induction A with
  | nil => intro _; rfl
  | cons x t ih =>
    intro h
    obtain ⟨z, r, hz, hzp⟩ := dep_head b B
    cases t with
    | nil =>
      have hx : x.p ≠ b.p := h x rfl
      show (match depthL (b :: B) with | [] => [⟨x.p, x.q, 1⟩] | y :: r => if y.p = x.p then ⟨x.p, x.q + y.q, y.n + 1⟩ :: r else ⟨x.p, x.q, 1⟩ :: y :: r : List LvR) = [⟨x.p, x.q, 1⟩] ++ depthL (b :: B)
      rw [hz]
      simp only
      rw [if_neg (by rw [hzp]; exact fun e => hx e.symm)]
      rfl
    | cons x2 t2 =>
      have IH := ih (fun y hy => h y (by rw [List.getLast?_cons_cons]; exact hy))
      obtain ⟨y, r2, hy⟩ := dep_ne (l := x2 :: t2) (by simp)
      show (match depthL ((x2 :: t2) ++ b :: B) with | [] => [⟨x.p, x.q, 1⟩] | y :: r => if y.p = x.p then ⟨x.p, x.q + y.q, y.n + 1⟩ :: r else ⟨x.p, x.q, 1⟩ :: y :: r : List LvR) = (match depthL (x2 :: t2) with | [] => [⟨x.p, x.q, 1⟩] | y :: r => if y.p = x.p then ⟨x.p, x.q + y.q, y.n + 1⟩ :: r else ⟨x.p, x.q, 1⟩ :: y :: r : List LvR) ++ depthL (b :: B)
      rw [IH, hy]
      simp only [List.cons_append]
      split <;> rfl
theorem dep_same {o : OrdR} : ∀ A : List OrdR, (∃ y, A.getLast? = some y ∧ y.p = o.p) → ∃ D d, depthL A = D ++ [d] ∧ d.p = o.p ∧ depthL (A ++ [o]) = D ++ [⟨d.p, d.q + o.q, d.n + 1⟩] := by
  intro A
  induction A with
  | nil => rintro ⟨y, hy, _⟩; cases hy
  | cons x t ih =>
    rintro ⟨y, hy, hp⟩
    cases t with
    | nil =>
      have hy : x = y := by simpa using hy
      subst hy
      refine ⟨[], ⟨x.p, x.q, 1⟩, rfl, hp, ?_⟩
      show (if o.p = x.p then [⟨x.p, x.q + o.q, 1 + 1⟩] else [⟨x.p, x.q, 1⟩, ⟨o.p, o.q, 1⟩] : List LvR) = _
      rw [if_pos hp.symm]; rfl
    | cons x2 t2 =>
      obtain ⟨D, d, h1, h2, h3⟩ := ih ⟨y, by rw [List.getLast?_cons_cons] at hy; exact hy, hp⟩
      have e1 : depthL (x :: x2 :: t2) = (match depthL (x2 :: t2) with | [] => [⟨x.p, x.q, 1⟩] | y :: r => if y.p = x.p then ⟨x.p, x.q + y.q, y.n + 1⟩ :: r else ⟨x.p, x.q, 1⟩ :: y :: r : List LvR) := rfl
      have e2 : depthL (x :: x2 :: t2 ++ [o]) = (match depthL (x2 :: t2 ++ [o]) with | [] => [⟨x.p, x.q, 1⟩] | y :: r => if y.p = x.p then ⟨x.p, x.q + y.q, y.n + 1⟩ :: r else ⟨x.p, x.q, 1⟩ :: y :: r : List LvR) := rfl
      rw [e1, e2, h1, h3]
      cases D with
      | nil =>
        simp only [List.nil_append]
        by_cases hx : d.p = x.p
        · rw [if_pos hx, if_pos hx]
          exact ⟨[], _, rfl, by rw [← hx]; exact h2, by simp only [List.nil_append]; congr 2; omega⟩
        · rw [if_neg hx, if_neg hx]
          exact ⟨[⟨x.p, x.q, 1⟩], d, rfl, h2, rfl⟩
      | cons z D =>
        simp only [List.cons_append]
        by_cases hx : z.p = x.p
        · rw [if_pos hx, if_pos hx]
          exact ⟨⟨x.p, x.q + z.q, z.n + 1⟩ :: D, d, rfl, h2, rfl⟩
        · rw [if_neg hx, if_neg hx]
          exact ⟨⟨x.p, x.q, 1⟩ :: z :: D, d, rfl, h2, rfl⟩
theorem dep_bd : ∀ {l : List OrdR}, (∀ o ∈ l, 1 ≤ o.q ∧ o.q ≤ 1000000000) → ∀ d ∈ depthL l, 0 ≤ d.q ∧ d.q ≤ l.length * 1000000000 ∧ 0 ≤ d.n ∧ d.n ≤ l.length := by
  intro l
  induction l with
  | nil => intro _ d hd; cases hd
  | cons o t ih =>
    intro h d hd
    have ho := h o (by simp)
    have IH := ih (fun x hx => h x (by simp [hx]))
    unfold depthL at hd
    rw [List.length_cons]
    cases e : depthL t with
    | nil =>
      rw [e] at hd
      have hd : d = ⟨o.p, o.q, 1⟩ := by simpa using hd
      subst hd
      simp only; omega
    | cons x r =>
      rw [e] at hd IH
      simp only at hd
      have hx := IH x (by simp)
      split at hd
      · rcases List.mem_cons.1 hd with rfl | hd
        · simp only; omega
        · have := IH d (by simp [hd]); omega
      · rcases List.mem_cons.1 hd with rfl | hd
        · simp only; omega
        · have := IH d hd; omega
theorem dep_len : ∀ l : List OrdR, (depthL l).length ≤ l.length := by
  intro l
  induction l with
  | nil => exact Nat.le_refl _
  | cons o t ih =>
    unfold depthL
    cases e : depthL t with
    | nil => simp
    | cons x r =>
      rw [e] at ih
      simp only
      split <;> simp only [List.length_cons] at ih ⊢ <;> omega
theorem dep_prices : ∀ l : List OrdR, (depthL l).map (·.p) = pricesL l := by
  intro l
  induction l with
  | nil => rfl
  | cons o t ih =>
    unfold depthL pricesL
    rw [← ih]
    cases e : depthL t with
    | nil => rfl
    | cons x r =>
      simp only [List.map_cons]
      by_cases h : x.p = o.p
      · rw [if_pos h, if_pos h, List.map_cons, h]
      · rw [if_neg h, if_neg h]; rfl

/-! ### In memory -/
theorem lvlC_length (l : List LvR) : (lvlC l).length = l.length * 3 := by
  induction l with
  | nil => rfl
  | cons x t ih => simp only [lvlC, List.flatMap_cons, List.length_append, List.length_cons, List.length_nil] at ih ⊢; omega
theorem lvlC_at {l : List LvR} {k : Nat} {d : LvR} (h : l[k]? = some d) : (lvlC l)[k * 3]? = some (.int .i64 d.p) ∧ (lvlC l)[k * 3 + 1]? = some (.int .i64 d.q) ∧ (lvlC l)[k * 3 + 2]? = some (.int .i64 d.n) := by
  induction l generalizing k with
  | nil => simp at h
  | cons y t ih =>
    cases k with
    | zero => simp at h; subst h; exact ⟨rfl, rfl, rfl⟩
    | succ k =>
      have := ih (k := k) (by simpa using h)
      have e : ∀ j, (lvlC (y :: t))[(k + 1) * 3 + j]? = (lvlC t)[k * 3 + j]? := fun j => by
        rw [show (k + 1) * 3 + j = (k * 3 + j) + 3 by omega]; rfl
      exact ⟨(e 0).trans this.1, (e 1).trans this.2.1, (e 2).trans this.2.2⟩
theorem lvlC_set (D : List LvR) (d : LvR) (x y : Int) : ((lvlC (D ++ [d])).set (D.length * 3 + 1) (.int .i64 x)).set (D.length * 3 + 2) (.int .i64 y) = lvlC (D ++ [⟨d.p, x, y⟩]) := by
  have e1 : lvlC (D ++ [d]) = lvlC D ++ [.int .i64 d.p, .int .i64 d.q, .int .i64 d.n] := lvlC_append _ _
  have e2 : lvlC (D ++ [⟨d.p, x, y⟩]) = lvlC D ++ [.int .i64 d.p, .int .i64 x, .int .i64 y] := lvlC_append _ _
  rw [e1, e2, ← lvlC_length, List.set_append_right _ _ (by omega), List.set_append_right _ _ (by omega)]
  congr 1
  rw [show (lvlC D).length + 1 - (lvlC D).length = 1 by omega, show (lvlC D).length + 2 - (lvlC D).length = 2 by omega]
  rfl
/-- The last level's cells, and what writing them leaves. -/
theorem lvl_last {W : World} {base m g cap : Nat} {D : List LvR} {d : LvR} (h : W.ownsRow base 94 3 (.slice (some ⟨g, 0, none⟩) (m + 1) cap) (m + 1) (lvlC (D ++ [d]))) (hm : m = D.length) :
    Cell W g (m * 3) (.int .i64 d.p) ∧ Cell W g (m * 3 + 1) (.int .i64 d.q) ∧ Cell W g (m * 3 + 2) (.int .i64 d.n) ∧
      ∀ x y, ((W.drew.setCell ⟨g, m * 3 + 1, none⟩ (.int .i64 x)).setCell ⟨g, m * 3 + 2, none⟩ (.int .i64 y)).ownsRow base 94 3 (.slice (some ⟨g, 0, none⟩) (m + 1) cap) (m + 1) (lvlC (D ++ [⟨d.p, x, y⟩])) := by
  subst hm
  have hk : (D ++ [d])[D.length]? = some d := by simp
  obtain ⟨a0, a1, a2⟩ := lvlC_at hk
  obtain ⟨g', cap', e, _, _, _, hc⟩ := ownC h (Nat.succ_pos _)
  obtain rfl : g = g' := by injection e with e; injection e with e; injection e with e
  refine ⟨hc _ _ a0, hc _ _ a1, hc _ _ a2, fun x y => ?_⟩
  have h1 := ownsRow_apart h ((Only.refl (fun _ => False) W).drew) (fun _ _ => id)
  have h2 := own_set (own_set h1 rfl (off := D.length * 3 + 1) (by omega) (.int .i64 x)) rfl (off := D.length * 3 + 2) (by omega) (.int .i64 y)
  rwa [lvlC_set] at h2

section
variable {w : World} {r most room : Nat} {vv : Bool → Value} {T : Nat → Prop} {l : Bool → List OrdR}

set_option maxRecDepth 100000 in
set_option maxHeartbeats 8000000 in
theorem r6_depth (h : R6M w r vv most room l) (hok : ∀ q, ∀ o ∈ l q, 1 ≤ o.q ∧ o.q ≤ 1000000000) (hl : ∀ q, (l q).length ≤ 1000) (q : Bool) (n : Int) :
    Calls Try.prog 88 #[.pointer (some ⟨r, 0, none⟩), .int .u8 (sdN q), .int .i64 n] w (LvPost w ((depthL (l q)).take n.toNat)) := by
  have HS := Lib.hid (r6_side h (sdN q))
  rw [sideV_sdN] at HS
  obtain ⟨a, cap, hvv, hcap, hat⟩ := OrdAt.of_own (h.own q)
  rw [hvv] at HS
  have hln := hl q
  have hk := hok q
  generalize sdN q = sd at *
  generalize l q = L at *
  obtain ⟨nl, hnl⟩ : ∃ n, n = L.length := ⟨_, rfl⟩
  rw [← hnl] at HS hln
  have HN := Lib.hid hnl
  have HA := Lib.hid hat
  have HK := Lib.hid hk
  clear h hvv hat hk hok hl hcap hnl
  go_enter Try.func88, Try.ntmps88
  go_wp2_with fail
  refine HS.out.mono ?_
  rintro e w1 ⟨rfl, rfl⟩
  go_wp2_with fail
  go_loopw [8, 9] (fun s8 s9 wr => ∃ (j : Nat) (v : Value), j ≤ nl ∧ s8 = v ∧ s9 = .int .i64 j ∧ (depthL (L.take j)).length ≤ n.toNat ∧ Only (fun _ => False) w wr ∧ wr.ownsRow w.heap.size 94 3 v (depthL (L.take j)).length (lvlC (depthL (L.take j)))) (fun _ s _ => nl - (intOf s).toNat)
  case atStart => exact ⟨0, _, Nat.zero_le _, rfl, rfl, by simp [depthL], Only.refl _ _, World.ownsRow_nil _ _ _ _⟩
  case round =>
    obtain ⟨j, v, hj, e8, rfl, hmle, ho, hv⟩ := hrel
    replace e8 := e8.symm
    subst e8
    by_cases hlt : j < nl
    · have tj : decide (j < nl) = true := by simpa using hlt
      obtain ⟨x, hx⟩ : ∃ x, L[j]? = some x := ⟨_, List.getElem?_eq_getElem (by rw [← HN.out]; exact hlt)⟩
      obtain ⟨g, rfl, hg, b0, b1, b2, b3, b4⟩ := HA.out.elt ho hx
      have ij : (0 : Int) ≤ (j : Int) ∧ (j : Int) < (nl : Int) := by omega
      have w1 : IntKind.i64.wrap ((j : Int) + 1) = (j : Int) + 1 := by rw [IntKind.wrap_i64]; omega
      have htake : L.take (j + 1) = L.take j ++ [x] := by rw [List.take_add_one, hx]; rfl
      have hdrop : L.drop j = x :: L.drop (j + 1) := by rw [List.drop_eq_getElem_cons (by rw [← HN.out]; exact hlt), (List.getElem?_eq_some_iff.1 hx).2]
      have hbd := dep_bd (l := L.take j) (fun o ho => HK.out o (List.mem_of_mem_take ho))
      have htl : (L.take j).length = j := by rw [List.length_take, ← HN.out]; omega
      rw [htl] at hbd
      have hml := dep_len (L.take j)
      rw [htl] at hml
      have hoq := HK.out x (List.mem_of_getElem? hx)
      obtain ⟨oi, oc, os, op, oq⟩ := x
      simp only at b0 b1 b2 b3 b4 hoq
      have hwsz := ho.size
      rcases Nat.eq_zero_or_pos j with hj0 | hj0
      · have hdiff : ∀ y, (L.take j).getLast? = some y → y.p ≠ op := fun y hy => by rw [hj0, List.take_zero] at hy; cases hy
        have hnew : depthL (L.take (j + 1)) = depthL (L.take j) ++ [⟨op, oq, 1⟩] := by rw [htake]; exact dep_app (b := ⟨oi, oc, os, op, oq⟩) (B := []) _ hdiff
        have hall : depthL L = depthL (L.take j) ++ depthL (⟨oi, oc, os, op, oq⟩ :: L.drop (j + 1)) := by
          conv => lhs; rw [← List.take_append_drop j L, hdrop]
          exact dep_app _ hdiff
        obtain ⟨m, hm⟩ : ∃ m, m = (depthL (L.take j)).length := ⟨_, rfl⟩
        rw [← hm] at hv hmle hml
        obtain ⟨DL, hDL⟩ : ∃ DL, DL = depthL (L.take j) := ⟨_, rfl⟩
        rw [← hDL] at hv hnew hall hm hbd
        have tm : ((m : Int) == 0) = true := by rw [hm, hDL, hj0]; rfl
        obtain ⟨va, vc, rfl, hvc⟩ := own_slice hv
        have HALL := Lib.hid hall
        have HNEW := Lib.hid hnew
        have HV := Lib.hid hv
        have HO := Lib.hid ho
        have HM := Lib.hid hm
        have HX := Lib.hid hx
        clear hj0 htake hdrop hdiff hnew hall hv ho hDL hm hbd hx
        by_cases hn : n ≤ (m : Int)
        · have tn : decide (n ≤ (m : Int)) = true := by simpa using hn
          have hret : (depthL L).take n.toNat = DL := by rw [HALL.out]; exact List.take_left' (by rw [← HM.out]; omega)
          have HRET := Lib.hid hret
          clear hret
          go_wp2_with fail
          go_quiet (fail)
          go_wp2_with fail
          go_returns
          rw [HRET.out]
          refine ⟨_, rfl, ?_, by have := HO.out; repeat' (first | (with_reducible exact Only.refl _ _) | (with_reducible assumption) | (refine Only.of_none ?_; with_reducible assumption) | (with_reducible refine Only.drewN ?_ _) | (with_reducible refine Only.drew ?_) | (with_reducible refine Only.alloc ?_ _) | (with_reducible refine Only.setCell ?_ ?_ _) | (with_reducible refine Only.then0 ?_ (by with_reducible assumption)) | (with_reducible refine Only.thenN ?_ (by with_reducible assumption) ?_) | (with_reducible refine Only.trans ?_ (by with_reducible assumption)) | (refine .inl ?_; first | rfl | (simp; done) | (simp [Ar.blk]; done)) | (refine .inr ?_; first | omega | (simp; done) | (simp; omega) | exact Only.size (by with_reducible assumption) | (refine Nat.le_trans (Only.size (by with_reducible assumption)) ?_; simp; done)))⟩
          rw [← HM.out]
          exact ownsRow_apart HV.out ((Only.refl (fun _ => False) wr).drewN _) (fun _ _ => id)
        · have tn : decide (n ≤ (m : Int)) = false := by simpa using hn
          have hmn : m + 1 ≤ n.toNat := by omega
          have HMN := Lib.hid hmn
          clear hn hmn
          go_wp2_with fail
          go_quiet (fail)
          generalize hwq : wr.drewN _ = wq
          have oqr : Only (fun _ => False) wr wq := by rw [← hwq]; exact (Only.refl (fun _ => False) wr).drewN _
          have oqw : Only (fun _ => False) w wq := HO.out.trans oqr
          have hvq := ownsRow_apart HV.out oqr (fun _ _ => id)
          have b3 := oqr.cell b3 id
          have b4q := oqr.cell b4 id
          have hgq : g < wq.heap.size := Nat.lt_of_lt_of_le hg oqr.size
          have hszq := oqw.size
          obtain ⟨i3, hi3, hz3, hs3, hb3⟩ := info_parts Try.infoApiLevel
          obtain ⟨v', W2, hr2, hw2, hg2, hloc⟩ := append_own (P := Try.prog) (ty := 90) Try.underlying90 hi3 hz3 hs3 hb3 rfl (by decide) (ownsRow_apart hvq ((Only.refl (fun _ => False) wq).alloc (.cells #[.int .i64 op, .int .i64 0, .int .i64 0] 94)) (fun _ _ => id)) ⟨wq.heap.size, 0, none⟩ 1 1 [.int .i64 op, .int .i64 0, .int .i64 0] rfl (cell_three_new wq _ _ _ _) (by simp [Value.oneCell']) (by unfold maxLen; omega) (by omega) (by rw [World.size_alloc]; omega)
          have oW2 : Only (fun _ => False) w W2 := (oqw.alloc _).new (Only.of_grown hg2 (fun q e => (hvq.lt q e).1))
          obtain ⟨gb2, cap2, rfl, hcap2, hgb2, hgl2, _⟩ := ownC hw2 (Nat.succ_pos _)
          obtain ⟨g2, eg, hg2l, _, _, _, c3, c4⟩ := HA.out.elt oW2 HX.out
          obtain rfl : g = g2 := by injection eg with eg; injection eg with eg
          simp only at c3 c4
          have hv := hw2
          rw [show lvlC DL ++ [Value.int .i64 op, .int .i64 0, .int .i64 0] = lvlC (DL ++ [⟨op, 0, 0⟩]) from by rw [lvlC_append]; rfl] at hv
          have hlast := lvl_last hv HM.out
          obtain ⟨k0, k1, k2, hset⟩ := hlast
          have q0 := k0.cell; have q1 := k1.cell; have q2 := k2.cell
          have f1 := k1.free; have f2 := k2.free
          have K2 := (k2.drew.far (off_ne (b := gb2) (o := m * 3 + 1) (o' := m * 3 + 2) (by omega)) (.int .i64 (oq))).cell
          have F2 := (k2.drew.far (off_ne (b := gb2) (o := m * 3 + 1) (o' := m * 3 + 2) (by omega)) (.int .i64 (oq))).free
          have hset := hset (oq) (1)
          have HSET := Lib.hid hset
          have OFIN := Lib.hid (show Only (fun _ => False) w ((W2.drew.setCell ⟨gb2, m * 3 + 1, none⟩ (.int .i64 (oq))).setCell ⟨gb2, m * 3 + 2, none⟩ (.int .i64 (1))) from (oW2.drew.setCell (.inr hgb2) _).setCell (.inr hgb2) _)
          have zg1 := cell_lt q1
          have wm : IntKind.i64.wrap (((m + 1 : Nat) : Int) - 1) = (m : Int) := by rw [IntKind.wrap_i64]; omega
          have wm' : IntKind.i64.wrap ((m : Int) + 1 - 1) = (m : Int) := by rw [IntKind.wrap_i64]; omega
          have wm2 : IntKind.i64.wrap (m : Int) = (m : Int) := by rw [IntKind.wrap_i64]; omega
          have im : (0 : Int) ≤ (m : Int) ∧ (m : Int) < ((m + 1 : Nat) : Int) := by omega
          have im2 : (m : Int) < (m : Int) + 1 := by omega
          have wq : IntKind.i64.wrap (0 + oq) = oq := by rw [IntKind.wrap_i64]; omega
          have wn : IntKind.i64.wrap (0 + 1) = 1 := by rw [IntKind.wrap_i64]; omega
          clear hset k0 k1 k2 hv
          have wz1 : IntKind.i64.wrap ((m : Int) + 1) = (m : Int) + 1 := by rw [IntKind.wrap_i64]; omega
          have wo : IntKind.i64.wrap oq = oq := by rw [IntKind.wrap_i64]; omega
          have wz : IntKind.i64.wrap 1 = 1 := by decide
          clear hvq hw2 hg2 hloc oW2 oqw oqr hwq eg b4q hi3 hz3 hs3 hb3 i3
          go_wp2_with (at_builtin; refine wpList_append_run rfl (.tmp 42) (.tmp 49) 90 rfl _ _ _ rfl rfl hr2 ?_; clear hr2)
          go_still_tail 15, (by kernel_rfl)
          go_wp2_with fail
          go_roundw
          case rel => exact ⟨j + 1, _, by omega, rfl, by go_num, by rw [HNEW.out, List.length_append, ← HM.out]; exact HMN.out, OFIN.out, by rw [HNEW.out, List.length_append, ← HM.out]; exact HSET.out⟩
          case measure => simp [intOf]; omega
      · obtain ⟨y, hy⟩ : ∃ y, (L.take j).getLast? = some y := by
          cases e : (L.take j).getLast? with
          | some y => exact ⟨y, rfl⟩
          | none => rw [List.getLast?_eq_none_iff] at e; rw [e] at htl; simp at htl; omega
        obtain ⟨D, d, hD, hdp, _⟩ := dep_same (o := y) (L.take j) ⟨y, hy, rfl⟩
        obtain ⟨m0, hm0⟩ : ∃ m0, m0 = D.length := ⟨_, rfl⟩
        obtain ⟨m, hmm⟩ : ∃ m, m = m0 + 1 := ⟨_, rfl⟩
        have hlen : (depthL (L.take j)).length = m0 + 1 := by rw [hD, List.length_append, hm0]; rfl
        rw [hlen] at hv hmle hml
        obtain ⟨gb, vc, rfl, hvc, hgb, hgl, _⟩ := ownC hv (by omega)
        have hv0 := hv
        rw [hD] at hv0
        have hdb := hbd d (by rw [hD]; simp)
        obtain ⟨k0, k1, k2, hset⟩ := lvl_last hv0 hm0
        rw [← hmm] at hv hmle hml hvc
        have tm : ((m : Int) == 0) = false := by simp; omega
        have wm : IntKind.i64.wrap ((m : Int) - 1) = (m0 : Int) := by rw [IntKind.wrap_i64]; omega
        have im : (0 : Int) ≤ (m0 : Int) ∧ (m0 : Int) < (m : Int) := by omega
        have q0 := k0.cell
        have zg0 := cell_lt q0
        have HX := Lib.hid hx
        by_cases hp : d.p = op
        · obtain ⟨D', d', h1, h2, h3⟩ := dep_same (o := ⟨oi, oc, os, op, oq⟩) (L.take j) ⟨y, hy, by rw [← hdp]; exact hp⟩
          obtain ⟨rfl, e'⟩ := List.append_inj (hD.symm.trans h1) (by have := congrArg List.length (hD.symm.trans h1); simpa using this)
          obtain rfl : d = d' := by simpa using e'
          have hnew : depthL (L.take (j + 1)) = D ++ [⟨d.p, d.q + oq, d.n + 1⟩] := by rw [htake]; exact h3
          have tne : (d.p != op) = false := by simpa using hp
          have HNEW := Lib.hid hnew
          have HV := Lib.hid hv0
          have HO := Lib.hid ho
          have HMM := Lib.hid hmm
          have HM0 := Lib.hid hm0
          have HLN := Lib.hid (show (D ++ [(⟨d.p, d.q + oq, d.n + 1⟩ : LvR)]).length = m by rw [hmm, List.length_append, ← hm0]; rfl)
          obtain ⟨dp, dq, dn⟩ := d
          simp only at q0 hdb tne HNEW HV HLN
          rw [← hmm]
          clear htake hdrop hnew hv hv0 ho hbd hx hD hdp hlen hp h1 h2 h3 e' hy htl hset k0 k1 k2 hmm hm0
          go_wp2_with fail
          go_quiet (fail)
          generalize hwq : wr.drewN _ = wq
          have oqr : Only (fun _ => False) wr wq := by rw [← hwq]; exact (Only.refl (fun _ => False) wr).drewN _
          have oqw : Only (fun _ => False) w wq := HO.out.trans oqr
          have hv := ownsRow_apart HV.out oqr (fun _ _ => id)
          obtain ⟨g2, eg, hg2l, _, _, _, c3, c4⟩ := HA.out.elt oqw HX.out
          obtain rfl : g = g2 := by injection eg with eg; injection eg with eg
          simp only at c3 c4
          have hlast := lvl_last hv HM0.out
          obtain ⟨k0, k1, k2, hset⟩ := hlast
          have q0 := k0.cell; have q1 := k1.cell; have q2 := k2.cell
          have f1 := k1.free; have f2 := k2.free
          have K2 := (k2.drew.far (off_ne (b := gb) (o := m0 * 3 + 1) (o' := m0 * 3 + 2) (by omega)) (.int .i64 (dq + oq))).cell
          have F2 := (k2.drew.far (off_ne (b := gb) (o := m0 * 3 + 1) (o' := m0 * 3 + 2) (by omega)) (.int .i64 (dq + oq))).free
          have hset := hset (dq + oq) (dn + 1)
          have HSET := Lib.hid hset
          have OFIN := Lib.hid (show Only (fun _ => False) w ((wq.drew.setCell ⟨gb, m0 * 3 + 1, none⟩ (.int .i64 (dq + oq))).setCell ⟨gb, m0 * 3 + 2, none⟩ (.int .i64 (dn + 1))) from (oqw.drew.setCell (.inr hgb) _).setCell (.inr hgb) _)
          have zg1 := cell_lt q1
          have wm3 : IntKind.i64.wrap (((m0 + 1 : Nat) : Int) - 1) = (m0 : Int) := by rw [IntKind.wrap_i64]; omega
          have wm' : IntKind.i64.wrap ((m0 : Int) + 1 - 1) = (m0 : Int) := by rw [IntKind.wrap_i64]; omega
          have wm2 : IntKind.i64.wrap (m0 : Int) = (m0 : Int) := by rw [IntKind.wrap_i64]; omega
          have im3 : (0 : Int) ≤ (m0 : Int) ∧ (m0 : Int) < ((m0 + 1 : Nat) : Int) := by omega
          have im2 : (m0 : Int) < (m0 : Int) + 1 := by omega
          have wq : IntKind.i64.wrap (dq + oq) = dq + oq := by rw [IntKind.wrap_i64]; omega
          have wn : IntKind.i64.wrap (dn + 1) = dn + 1 := by rw [IntKind.wrap_i64]; omega
          clear hset k0 k1 k2 hv
          clear oqw oqr hwq eg q0 b0 b1 b2 b3 b4 c3 tne
          go_wp2_with fail
          go_still_tail 15, (by kernel_rfl)
          go_wp2_with fail
          go_roundw
          case rel => exact ⟨j + 1, _, by omega, rfl, by go_num, by rw [HNEW.out, HLN.out]; exact hmle, OFIN.out, by rw [HNEW.out, HLN.out]; have := HSET.out; rwa [← HMM.out] at this⟩
          case measure => simp [intOf]; omega
        · have hdiff : ∀ z, (L.take j).getLast? = some z → z.p ≠ op := fun z hz => by
            rw [hy] at hz
            injection hz with hz
            rw [← hz, ← hdp]; exact hp
          have hnew : depthL (L.take (j + 1)) = depthL (L.take j) ++ [⟨op, oq, 1⟩] := by rw [htake]; exact dep_app (b := ⟨oi, oc, os, op, oq⟩) (B := []) _ hdiff
          have hall : depthL L = depthL (L.take j) ++ depthL (⟨oi, oc, os, op, oq⟩ :: L.drop (j + 1)) := by
            conv => lhs; rw [← List.take_append_drop j L, hdrop]
            exact dep_app _ hdiff
          have tne : (d.p != op) = true := by simpa using hp
          have hm : m = (depthL (L.take j)).length := by rw [hlen, hmm]
          obtain ⟨DL, hDL⟩ : ∃ DL, DL = depthL (L.take j) := ⟨_, rfl⟩
          rw [← hDL] at hv hnew hall hm
          have HALL := Lib.hid hall
          have HNEW := Lib.hid hnew
          have HV := Lib.hid hv
          have HO := Lib.hid ho
          have HM := Lib.hid hm
          obtain ⟨dp, dq, dn⟩ := d
          simp only at q0 tne
          rw [← hmm]
          have hm3 : m0 + 1 = m := hmm.symm
          clear htake hdrop hdiff hnew hall hv hv0 ho hDL hm hbd hx hD hdp hdb hlen hp hy htl hset k0 k1 k2 hmm hm3 hm0
          by_cases hn : n ≤ (m : Int)
          · have tn : decide (n ≤ (m : Int)) = true := by simpa using hn
            have hret : (depthL L).take n.toNat = DL := by rw [HALL.out]; exact List.take_left' (by rw [← HM.out]; omega)
            have HRET := Lib.hid hret
            clear hret
            go_wp2_with fail
            go_quiet (fail)
            go_wp2_with fail
            go_returns
            rw [HRET.out]
            refine ⟨_, rfl, ?_, by have := HO.out; repeat' (first | (with_reducible exact Only.refl _ _) | (with_reducible assumption) | (refine Only.of_none ?_; with_reducible assumption) | (with_reducible refine Only.drewN ?_ _) | (with_reducible refine Only.drew ?_) | (with_reducible refine Only.alloc ?_ _) | (with_reducible refine Only.setCell ?_ ?_ _) | (with_reducible refine Only.then0 ?_ (by with_reducible assumption)) | (with_reducible refine Only.thenN ?_ (by with_reducible assumption) ?_) | (with_reducible refine Only.trans ?_ (by with_reducible assumption)) | (refine .inl ?_; first | rfl | (simp; done) | (simp [Ar.blk]; done)) | (refine .inr ?_; first | omega | (simp; done) | (simp; omega) | exact Only.size (by with_reducible assumption) | (refine Nat.le_trans (Only.size (by with_reducible assumption)) ?_; simp; done)))⟩
            rw [← HM.out]
            exact ownsRow_apart HV.out ((Only.refl (fun _ => False) wr).drewN _) (fun _ _ => id)
          · have tn : decide (n ≤ (m : Int)) = false := by simpa using hn
            have hmn : m + 1 ≤ n.toNat := by omega
            have HMN := Lib.hid hmn
            clear hn hmn
            go_wp2_with fail
            go_quiet (fail)
            generalize hwq : wr.drewN _ = wq
            have oqr : Only (fun _ => False) wr wq := by rw [← hwq]; exact (Only.refl (fun _ => False) wr).drewN _
            have oqw : Only (fun _ => False) w wq := HO.out.trans oqr
            have hvq := ownsRow_apart HV.out oqr (fun _ _ => id)
            have b3 := oqr.cell b3 id
            have b4q := oqr.cell b4 id
            have hgq : g < wq.heap.size := Nat.lt_of_lt_of_le hg oqr.size
            have hszq := oqw.size
            obtain ⟨i3, hi3, hz3, hs3, hb3⟩ := info_parts Try.infoApiLevel
            obtain ⟨v', W2, hr2, hw2, hg2, hloc⟩ := append_own (P := Try.prog) (ty := 90) Try.underlying90 hi3 hz3 hs3 hb3 rfl (by decide) (ownsRow_apart hvq ((Only.refl (fun _ => False) wq).alloc (.cells #[.int .i64 op, .int .i64 0, .int .i64 0] 94)) (fun _ _ => id)) ⟨wq.heap.size, 0, none⟩ 1 1 [.int .i64 op, .int .i64 0, .int .i64 0] rfl (cell_three_new wq _ _ _ _) (by simp [Value.oneCell']) (by unfold maxLen; omega) (by omega) (by rw [World.size_alloc]; omega)
            have oW2 : Only (fun _ => False) w W2 := (oqw.alloc _).new (Only.of_grown hg2 (fun q e => (hvq.lt q e).1))
            obtain ⟨gb2, cap2, rfl, hcap2, hgb2, hgl2, _⟩ := ownC hw2 (Nat.succ_pos _)
            obtain ⟨g2, eg, hg2l, _, _, _, c3, c4⟩ := HA.out.elt oW2 HX.out
            obtain rfl : g = g2 := by injection eg with eg; injection eg with eg
            simp only at c3 c4
            have hv := hw2
            rw [show lvlC DL ++ [Value.int .i64 op, .int .i64 0, .int .i64 0] = lvlC (DL ++ [⟨op, 0, 0⟩]) from by rw [lvlC_append]; rfl] at hv
            have hlast := lvl_last hv HM.out
            obtain ⟨k0, k1, k2, hset⟩ := hlast
            have q0 := k0.cell; have q1 := k1.cell; have q2 := k2.cell
            have f1 := k1.free; have f2 := k2.free
            have K2 := (k2.drew.far (off_ne (b := gb2) (o := m * 3 + 1) (o' := m * 3 + 2) (by omega)) (.int .i64 (oq))).cell
            have F2 := (k2.drew.far (off_ne (b := gb2) (o := m * 3 + 1) (o' := m * 3 + 2) (by omega)) (.int .i64 (oq))).free
            have hset := hset (oq) (1)
            have HSET := Lib.hid hset
            have OFIN := Lib.hid (show Only (fun _ => False) w ((W2.drew.setCell ⟨gb2, m * 3 + 1, none⟩ (.int .i64 (oq))).setCell ⟨gb2, m * 3 + 2, none⟩ (.int .i64 (1))) from (oW2.drew.setCell (.inr hgb2) _).setCell (.inr hgb2) _)
            have zg1 := cell_lt q1
            have wm : IntKind.i64.wrap (((m + 1 : Nat) : Int) - 1) = (m : Int) := by rw [IntKind.wrap_i64]; omega
            have wm' : IntKind.i64.wrap ((m : Int) + 1 - 1) = (m : Int) := by rw [IntKind.wrap_i64]; omega
            have wm2 : IntKind.i64.wrap (m : Int) = (m : Int) := by rw [IntKind.wrap_i64]; omega
            have im : (0 : Int) ≤ (m : Int) ∧ (m : Int) < ((m + 1 : Nat) : Int) := by omega
            have im2 : (m : Int) < (m : Int) + 1 := by omega
            have wq : IntKind.i64.wrap (0 + oq) = oq := by rw [IntKind.wrap_i64]; omega
            have wn : IntKind.i64.wrap (0 + 1) = 1 := by rw [IntKind.wrap_i64]; omega
            clear hset k0 k1 k2 hv
            have wz1 : IntKind.i64.wrap ((m : Int) + 1) = (m : Int) + 1 := by rw [IntKind.wrap_i64]; omega
            have wo : IntKind.i64.wrap oq = oq := by rw [IntKind.wrap_i64]; omega
            have wz : IntKind.i64.wrap 1 = 1 := by decide
            clear hvq hw2 hg2 hloc oW2 oqw oqr hwq eg b4q hi3 hz3 hs3 hb3 i3
            go_wp2_with (at_builtin; refine wpList_append_run rfl (.tmp 42) (.tmp 49) 90 rfl _ _ _ rfl rfl hr2 ?_; clear hr2)
            go_still_tail 15, (by kernel_rfl)
            go_wp2_with fail
            go_roundw
            case rel => exact ⟨j + 1, _, by omega, rfl, by go_num, by rw [HNEW.out, List.length_append, ← HM.out]; exact HMN.out, OFIN.out, by rw [HNEW.out, List.length_append, ← HM.out]; exact HSET.out⟩
            case measure => simp [intOf]; omega
    · have tj : decide (j < nl) = false := by simpa using hlt
      rw [List.take_of_length_le (by rw [← HN.out]; omega)] at hv hmle
      have e : (depthL L).take n.toNat = depthL L := List.take_of_length_le hmle
      rw [← e] at hv
      have HV := Lib.hid hv
      have HO := Lib.hid ho
      clear hv ho e hmle
      go_wp2_with fail
      go_returns
      exact ⟨_, rfl, HV.out, HO.out⟩
end
end Go.Proofs.Ytilngakgofjmpaa
