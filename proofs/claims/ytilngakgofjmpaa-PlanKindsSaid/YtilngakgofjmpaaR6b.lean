/- The document's book: place, Get, Side, Best. Conditions: a book as its New lays it. -/
import Derived.Test.YtilngakgofjmpaaR6a
namespace Go.Proofs.Ytilngakgofjmpaa
set_option linter.unusedVariables false
set_option linter.unusedSimpArgs false
open Go.RowKit Go.Shelf
open Od (OrdR)
section
variable {w : World} {r most room : Nat} {vv : Bool → Value} {T : Nat → Prop} {l : Bool → List OrdR}

/-! ### place, Get -/
set_option maxHeartbeats 2000000 in
theorem r6_place_any (l : List OrdR) (a : Option Addr) (cap : Nat) (ha : OrdAt w a l) (hl : l.length ≤ 1000000) (k : Int) (v : Int) (hv : (∃ j : Nat, ∃ o, v = j ∧ l[j]? = some o ∧ o.i = k ∧ ∀ x ∈ l.take j, x.i ≠ k) ∨ (v = -1 ∧ ∀ x ∈ l, x.i ≠ k)) :
    Calls Try.prog 134 #[.slice a l.length cap, .int .i64 k] w fun e w' => e = .returned (.int .i64 v) ∧ w = w' := by
  have hsame : ∀ (j : Nat) (x : OrdR), l[j]? = some x → x.i = k → (∀ y ∈ l.take j, y.i ≠ k) → v = j := fun j x hx e hno => by
    rcases hv with ⟨i, o, rfl, hi, ho, hn⟩ | ⟨_, hn⟩
    · rcases Nat.lt_trichotomy i j with h | h | h
      · exact absurd ho (hno o (List.mem_of_getElem? (by rw [List.getElem?_take_of_lt h]; exact hi)))
      · rw [h]
      · exact absurd e (hn x (List.mem_of_getElem? (by rw [List.getElem?_take_of_lt h]; exact hx)))
    · exact absurd e (hn x (List.mem_of_getElem? hx))
  have hnone : (∀ x ∈ l, x.i ≠ k) → v = -1 := fun hn => by
    rcases hv with ⟨i, o, _, hi, ho, _⟩ | ⟨e, _⟩
    · exact absurd ho (hn o (List.mem_of_getElem? hi))
    · exact e
  obtain ⟨n, hn⟩ : ∃ n, n = l.length := ⟨_, rfl⟩
  rw [← hn] at hl ⊢
  have HN := Lib.hid hn
  have HA := Lib.hid ha
  have HS := Lib.hid hsame
  have HNO := Lib.hid hnone
  clear hn ha hv hsame hnone
  go_enter Try.func134, Try.ntmps134
  go_wp2_with fail
  go_loop [5] (fun s5 => ∃ j : Nat, j ≤ n ∧ s5 = .int .i64 j ∧ ∀ x ∈ l.take j, x.i ≠ k) (fun s => n - (intOf s).toNat)
  case atStart => exact ⟨0, by omega, rfl, by simp⟩
  case round =>
    obtain ⟨j, hj, rfl, hno⟩ := hrel
    by_cases hlt : j < n
    · have tj : decide (j < n) = true := by simpa using hlt
      obtain ⟨x, hx⟩ : ∃ x, l[j]? = some x := ⟨_, List.getElem?_eq_getElem (by rw [← HN.out]; exact hlt)⟩
      obtain ⟨g, rfl, hg, v1, _, _, _, _⟩ := HA.out j x hx
      have ij : (0 : Int) ≤ (j : Int) ∧ (j : Int) < (n : Int) := by omega
      have w1 : IntKind.i64.wrap ((j : Int) + 1) = (j : Int) + 1 := by rw [IntKind.wrap_i64]; omega
      by_cases hb : x.i = k
      · have hr := HS.out j x hx hb hno
        obtain ⟨oi, oc, os, op, oq⟩ := x
        simp only at v1 hb
        subst hb hr
        have t1 : (oi == oi) = true := by simp
        clear hx hno
        go_wp2_with fail
        go_returns
        exact ⟨rfl, rfl⟩
      · have hno2 : ∀ y ∈ l.take (j + 1), y.i ≠ k := fun y hy => by
          rw [List.take_add_one, hx] at hy
          simp only [Option.toList_some, List.mem_append, List.mem_singleton] at hy
          rcases hy with hy | rfl
          · exact hno y hy
          · exact hb
        have HNO2 := Lib.hid hno2
        obtain ⟨oi, oc, os, op, oq⟩ := x
        simp only at v1 hb
        have t1 : (oi == k) = false := by simpa using hb
        clear hx hno hno2 hb
        go_wp2_with fail
        go_round
        case rel => exact ⟨j + 1, by omega, by go_num, HNO2.out⟩
        case measure => simp [intOf]; omega
    · have tj : decide (j < n) = false := by simpa using hlt
      have hr := HNO.out (by rw [List.take_of_length_le (by rw [← HN.out]; omega)] at hno; exact hno)
      subst hr
      clear hno
      go_wp2_with fail
      go_returns
      exact ⟨rfl, rfl⟩
/-- Where an order stands. -/
inductive At6 (l : Bool → List OrdR) (k : Int) (o : OrdR) : Prop where
  | buy (j : Nat) (h : (l false)[j]? = some o) (n : ∀ x ∈ (l false).take j, x.i ≠ k)
  | sell (b : ∀ x ∈ l false, x.i ≠ k) (j : Nat) (h : (l true)[j]? = some o) (n : ∀ x ∈ (l true).take j, x.i ≠ k)
theorem find_at {l : List OrdR} {k : Int} {o : OrdR} (h : (l.find? fun o => decide (o.i = k)) = some o) : o.i = k ∧ ∃ j : Nat, l[j]? = some o ∧ ∀ x ∈ l.take j, x.i ≠ k := by
  have h1 : o.i = k := by have := List.find?_some h; simpa using this
  refine ⟨h1, ?_⟩
  rw [List.find?_eq_some_iff_append] at h
  obtain ⟨_, xs, ys, rfl, hno⟩ := h
  refine ⟨xs.length, by simp, fun x hx => ?_⟩
  rw [List.take_left' rfl] at hx
  simpa using hno x hx
theorem getL_at {l : Bool → List OrdR} {k : Int} {o : OrdR} (h : getL l k = some o) : o.i = k ∧ At6 l k o := by
  unfold getL at h
  rw [List.find?_append] at h
  cases hf : (l false).find? fun o => decide (o.i = k) with
  | some p =>
    rw [hf] at h
    have h : p = o := by simpa using h
    subst h
    obtain ⟨h1, j, h2, h3⟩ := find_at hf
    exact ⟨h1, .buy j h2 h3⟩
  | none =>
    rw [hf] at h
    obtain ⟨h1, j, h2, h3⟩ := find_at (l := l true) (by simpa using h)
    refine ⟨h1, .sell (fun x hx => ?_) j h2 h3⟩
    rw [List.find?_eq_none] at hf
    simpa using hf x hx

/-- What Get hands back. -/
def getV (l : Bool → List OrdR) (k : Int) : Value := match getL l k with | none => .tuple #[ordV zOrd, .bool false] | some o => .tuple #[ordV o, .bool true]
set_option maxRecDepth 100000 in
set_option maxHeartbeats 2000000 in
theorem r6_get (h : R6M w r vv most room l) (hl : ∀ q, (l q).length ≤ 1000000) (k : Int) :
    Calls Try.prog 86 #[.pointer (some ⟨r, 0, none⟩), .int .i64 k] w fun e w' => e = .returned (getV l k) ∧ Only (fun _ => False) w w' := by
  obtain ⟨a0, k0, a1, k1, e0, e1, o0, o1, h0, h1⟩ := h.parts
  have c2 := h.c2.cell
  have c3 := h.c3.cell
  rw [e0] at c2
  rw [e1] at c3
  have z0 := cell_lt c2
  have HP0 := Lib.hid fun W (o : Only (fun _ => False) w W) v hv => r6_place_any (w := W) (l false) a0 k0 (o0.only o fun _ _ => id) (hl false) k v hv
  have HP1 := Lib.hid fun W (o : Only (fun _ => False) w W) v hv => r6_place_any (w := W) (l true) a1 k1 (o1.only o fun _ _ => id) (hl true) k v hv
  obtain ⟨n0, hn0⟩ : ∃ n, n = (l false).length := ⟨_, rfl⟩
  obtain ⟨n1, hn1⟩ : ∃ n, n = (l true).length := ⟨_, rfl⟩
  rw [← hn0] at c2 HP0
  rw [← hn1] at c3 HP1
  have HN0 := Lib.hid hn0
  have HN1 := Lib.hid hn1
  have HO0 := Lib.hid o0
  have HO1 := Lib.hid o1
  clear h e0 e1 hn0 hn1 o0 o1 h0 h1 hl
  cases hg : getL l k with
  | none =>
    have e : getV l k = .tuple #[ordV zOrd, .bool false] := by unfold getV; rw [hg]
    have hno0 := getL_not hg false
    have hno1 := getL_not hg true
    rw [e]
    unfold ordV zOrd
    have HP0 := Lib.hid fun W o => HP0.out W o (-1) (.inr ⟨rfl, hno0⟩)
    have HP1 := Lib.hid fun W o => HP1.out W o (-1) (.inr ⟨rfl, hno1⟩)
    clear hg e hno0 hno1
    go_enter Try.func86, Try.ntmps86
    go_wp2_with fail
    refine (HP0.out _ (by repeat' (first | (with_reducible exact Only.refl _ _) | (with_reducible assumption) | (refine Only.of_none ?_; with_reducible assumption) | (with_reducible refine Only.drewN ?_ _) | (with_reducible refine Only.drew ?_) | (with_reducible refine Only.alloc ?_ _) | (with_reducible refine Only.setCell ?_ ?_ _) | (with_reducible refine Only.then0 ?_ (by with_reducible assumption)) | (with_reducible refine Only.thenN ?_ (by with_reducible assumption) ?_) | (with_reducible refine Only.trans ?_ (by with_reducible assumption)) | (refine .inl ?_; first | rfl | (simp; done) | (simp [Ar.blk]; done)) | (refine .inr ?_; first | omega | (simp; done) | (simp; omega) | exact Only.size (by with_reducible assumption) | (refine Nat.le_trans (Only.size (by with_reducible assumption)) ?_; simp; done))))).mono ?_
    rintro e w1 ⟨rfl, rfl⟩
    go_wp2_with fail
    refine (HP1.out _ (by repeat' (first | (with_reducible exact Only.refl _ _) | (with_reducible assumption) | (refine Only.of_none ?_; with_reducible assumption) | (with_reducible refine Only.drewN ?_ _) | (with_reducible refine Only.drew ?_) | (with_reducible refine Only.alloc ?_ _) | (with_reducible refine Only.setCell ?_ ?_ _) | (with_reducible refine Only.then0 ?_ (by with_reducible assumption)) | (with_reducible refine Only.thenN ?_ (by with_reducible assumption) ?_) | (with_reducible refine Only.trans ?_ (by with_reducible assumption)) | (refine .inl ?_; first | rfl | (simp; done) | (simp [Ar.blk]; done)) | (refine .inr ?_; first | omega | (simp; done) | (simp; omega) | exact Only.size (by with_reducible assumption) | (refine Nat.le_trans (Only.size (by with_reducible assumption)) ?_; simp; done))))).mono ?_
    rintro e w1 ⟨rfl, rfl⟩
    go_wp2_with fail
    refine bodyPost_ret (by simp [results, Try.results86, go_sem]; try rfl) rfl ?_
    exact ⟨rfl, by repeat' (first | (with_reducible exact Only.refl _ _) | (with_reducible assumption) | (refine Only.of_none ?_; with_reducible assumption) | (with_reducible refine Only.drewN ?_ _) | (with_reducible refine Only.drew ?_) | (with_reducible refine Only.alloc ?_ _) | (with_reducible refine Only.setCell ?_ ?_ _) | (with_reducible refine Only.then0 ?_ (by with_reducible assumption)) | (with_reducible refine Only.thenN ?_ (by with_reducible assumption) ?_) | (with_reducible refine Only.trans ?_ (by with_reducible assumption)) | (refine .inl ?_; first | rfl | (simp; done) | (simp [Ar.blk]; done)) | (refine .inr ?_; first | omega | (simp; done) | (simp; omega) | exact Only.size (by with_reducible assumption) | (refine Nat.le_trans (Only.size (by with_reducible assumption)) ?_; simp; done)))⟩
  | some o =>
    have e : getV l k = .tuple #[ordV o, .bool true] := by unfold getV; rw [hg]
    obtain ⟨hi, hat⟩ := getL_at hg
    rw [e]
    clear hg e
    rcases hat with ⟨j, hj, hno⟩ | ⟨hno0, j, hj, hno⟩
    · have HP0 := Lib.hid fun W o' => HP0.out W o' (j : Nat) (.inl ⟨j, o, rfl, hj, hi, hno⟩)
      obtain ⟨g, rfl, hg, b0, b1, b2, b3, b4⟩ := HO0.out j o hj
      have hjl := (List.getElem?_eq_some_iff.1 hj).1
      rw [← HN0.out] at hjl
      have ij : (0 : Int) ≤ (j : Int) ∧ (j : Int) < (n0 : Int) := by omega
      have t1 : decide ((0 : Int) ≤ (j : Int)) = true := by simp
      have t2 : decide (0 ≤ j) = true := by simp
      obtain ⟨oi, oc, os, op, oq⟩ := o
      simp only at b0 b1 b2 b3 b4
      unfold ordV
      simp only
      clear hj hi hno
      go_enter Try.func86, Try.ntmps86
      go_wp2_with fail
      refine (HP0.out _ (by repeat' (first | (with_reducible exact Only.refl _ _) | (with_reducible assumption) | (refine Only.of_none ?_; with_reducible assumption) | (with_reducible refine Only.drewN ?_ _) | (with_reducible refine Only.drew ?_) | (with_reducible refine Only.alloc ?_ _) | (with_reducible refine Only.setCell ?_ ?_ _) | (with_reducible refine Only.then0 ?_ (by with_reducible assumption)) | (with_reducible refine Only.thenN ?_ (by with_reducible assumption) ?_) | (with_reducible refine Only.trans ?_ (by with_reducible assumption)) | (refine .inl ?_; first | rfl | (simp; done) | (simp [Ar.blk]; done)) | (refine .inr ?_; first | omega | (simp; done) | (simp; omega) | exact Only.size (by with_reducible assumption) | (refine Nat.le_trans (Only.size (by with_reducible assumption)) ?_; simp; done))))).mono ?_
      rintro e w1 ⟨rfl, rfl⟩
      go_wp2_with fail
      refine bodyPost_ret (by simp [results, Try.results86, go_sem]; try rfl) rfl ?_
      exact ⟨rfl, by repeat' (first | (with_reducible exact Only.refl _ _) | (with_reducible assumption) | (refine Only.of_none ?_; with_reducible assumption) | (with_reducible refine Only.drewN ?_ _) | (with_reducible refine Only.drew ?_) | (with_reducible refine Only.alloc ?_ _) | (with_reducible refine Only.setCell ?_ ?_ _) | (with_reducible refine Only.then0 ?_ (by with_reducible assumption)) | (with_reducible refine Only.thenN ?_ (by with_reducible assumption) ?_) | (with_reducible refine Only.trans ?_ (by with_reducible assumption)) | (refine .inl ?_; first | rfl | (simp; done) | (simp [Ar.blk]; done)) | (refine .inr ?_; first | omega | (simp; done) | (simp; omega) | exact Only.size (by with_reducible assumption) | (refine Nat.le_trans (Only.size (by with_reducible assumption)) ?_; simp; done)))⟩
    · have HP0 := Lib.hid fun W o' => HP0.out W o' (-1) (.inr ⟨rfl, hno0⟩)
      have HP1 := Lib.hid fun W o' => HP1.out W o' (j : Nat) (.inl ⟨j, o, rfl, hj, hi, hno⟩)
      obtain ⟨g, rfl, hg, b0, b1, b2, b3, b4⟩ := HO1.out j o hj
      have hjl := (List.getElem?_eq_some_iff.1 hj).1
      rw [← HN1.out] at hjl
      have ij : (0 : Int) ≤ (j : Int) ∧ (j : Int) < (n1 : Int) := by omega
      have t1 : decide ((0 : Int) ≤ (j : Int)) = true := by simp
      have t2 : decide (0 ≤ j) = true := by simp
      obtain ⟨oi, oc, os, op, oq⟩ := o
      simp only at b0 b1 b2 b3 b4
      unfold ordV
      simp only
      clear hj hi hno hno0
      go_enter Try.func86, Try.ntmps86
      go_wp2_with fail
      refine (HP0.out _ (by repeat' (first | (with_reducible exact Only.refl _ _) | (with_reducible assumption) | (refine Only.of_none ?_; with_reducible assumption) | (with_reducible refine Only.drewN ?_ _) | (with_reducible refine Only.drew ?_) | (with_reducible refine Only.alloc ?_ _) | (with_reducible refine Only.setCell ?_ ?_ _) | (with_reducible refine Only.then0 ?_ (by with_reducible assumption)) | (with_reducible refine Only.thenN ?_ (by with_reducible assumption) ?_) | (with_reducible refine Only.trans ?_ (by with_reducible assumption)) | (refine .inl ?_; first | rfl | (simp; done) | (simp [Ar.blk]; done)) | (refine .inr ?_; first | omega | (simp; done) | (simp; omega) | exact Only.size (by with_reducible assumption) | (refine Nat.le_trans (Only.size (by with_reducible assumption)) ?_; simp; done))))).mono ?_
      rintro e w1 ⟨rfl, rfl⟩
      go_wp2_with fail
      refine (HP1.out _ (by repeat' (first | (with_reducible exact Only.refl _ _) | (with_reducible assumption) | (refine Only.of_none ?_; with_reducible assumption) | (with_reducible refine Only.drewN ?_ _) | (with_reducible refine Only.drew ?_) | (with_reducible refine Only.alloc ?_ _) | (with_reducible refine Only.setCell ?_ ?_ _) | (with_reducible refine Only.then0 ?_ (by with_reducible assumption)) | (with_reducible refine Only.thenN ?_ (by with_reducible assumption) ?_) | (with_reducible refine Only.trans ?_ (by with_reducible assumption)) | (refine .inl ?_; first | rfl | (simp; done) | (simp [Ar.blk]; done)) | (refine .inr ?_; first | omega | (simp; done) | (simp; omega) | exact Only.size (by with_reducible assumption) | (refine Nat.le_trans (Only.size (by with_reducible assumption)) ?_; simp; done))))).mono ?_
      rintro e w1 ⟨rfl, rfl⟩
      go_wp2_with fail
      refine bodyPost_ret (by simp [results, Try.results86, go_sem]; try rfl) rfl ?_
      exact ⟨rfl, by repeat' (first | (with_reducible exact Only.refl _ _) | (with_reducible assumption) | (refine Only.of_none ?_; with_reducible assumption) | (with_reducible refine Only.drewN ?_ _) | (with_reducible refine Only.drew ?_) | (with_reducible refine Only.alloc ?_ _) | (with_reducible refine Only.setCell ?_ ?_ _) | (with_reducible refine Only.then0 ?_ (by with_reducible assumption)) | (with_reducible refine Only.thenN ?_ (by with_reducible assumption) ?_) | (with_reducible refine Only.trans ?_ (by with_reducible assumption)) | (refine .inl ?_; first | rfl | (simp; done) | (simp [Ar.blk]; done)) | (refine .inr ?_; first | omega | (simp; done) | (simp; omega) | exact Only.size (by with_reducible assumption) | (refine Nat.le_trans (Only.size (by with_reducible assumption)) ?_; simp; done)))⟩

/-! ### Side, Best -/
def sideV (vv : Bool → Value) (s : Int) : Value := if s = 1 then vv false else if s = 2 then vv true else .slice none 0 0
theorem r6_side (h : R6M w r vv most room l) (s : Int) :
    Calls Try.prog 135 #[.pointer (some ⟨r, 0, none⟩), .int .u8 s] w fun e w' => e = .returned (sideV vv s) ∧ w = w' := by
  have c2 := h.c2.cell
  have c3 := h.c3.cell
  have z0 := cell_lt c2
  obtain ⟨a0, k0, a1, k1, e0, e1, _⟩ := h.parts
  unfold sideV
  rw [e0] at c2 ⊢
  rw [e1] at c3 ⊢
  generalize (l false).length = n at *
  generalize (l true).length = m at *
  clear h e0 e1
  by_cases h1 : s = 1
  · subst h1
    rw [if_pos rfl]
    go_enter Try.func135, Try.ntmps135
    go_wp2_with fail
    go_returns
    exact ⟨rfl, rfl⟩
  · rw [if_neg h1]
    have t1 : (s == 1) = false := by simpa using h1
    by_cases h2 : s = 2
    · subst h2
      rw [if_pos rfl]
      go_enter Try.func135, Try.ntmps135
      go_wp2_with fail
      go_returns
      exact ⟨rfl, rfl⟩
    · rw [if_neg h2]
      have t2 : (s == 2) = false := by simpa using h2
      clear h1 h2
      go_enter Try.func135, Try.ntmps135
      go_wp2_with fail
      go_returns
      exact ⟨rfl, rfl⟩
theorem sideV_sdN (vv : Bool → Value) (q : Bool) : sideV vv (sdN q) = vv q := by cases q <;> rfl
end
end Go.Proofs.Ytilngakgofjmpaa
