/- The document's arena: Get, Set, Row, Next, Len, First, Free. Conditions: an arena as its New lays it, the numbers of the rows distinct and within the room. -/
import Derived.Test.YtiiflgihjnlmcaaRef1
namespace Go.Proofs.Ytiiflgihjnlmcaa
set_option linter.unusedVariables false
set_option linter.unusedSimpArgs false
open Go.RowKit

theorem rowsL_le (R : Nat → List Nat) {a b : Nat} (h : a ≤ b) : (rowsL R a).length ≤ (rowsL R b).length := by
  induction b with
  | zero => rw [show a = 0 by omega]; exact Nat.le_refl _
  | succ b ih =>
    rcases Nat.lt_or_ge a (b + 1) with h1 | h1
    · have := ih (by omega)
      simp only [rowsL, List.length_append]
      omega
    · rw [show a = b + 1 by omega]; exact Nat.le_refl _

section
variable {base : Nat} {w : World} {b gr gu nr room : Nat} {hv : Nat → Value} {R : Nat → List Nat} {V : Nat → Int}

/-- What is read at a number's place. -/
theorem RaAt.spot (h : RaAt base w b gr gu nr room hv R V) {r n : Nat} (hr : r < nr) {l1 l2 : List Nat} (hs : R r = l1 ++ n :: l2) :
    ∃ g cap len, hv r = .slice (some ⟨g, 0, none⟩) len cap ∧ len = (R r).length ∧ len ≤ cap ∧ l1.length < len ∧ base ≤ g ∧ w.cell? ⟨gr, r, none⟩ = some (.slice (some ⟨g, 0, none⟩) len cap) ∧ Cell w g (l1.length * 2) (.int .i64 n) ∧ Cell w g (l1.length * 2 + 1) (.int .i64 (V n)) := by
  obtain ⟨g, cap, e, h0, h1, h2, v1, v2⟩ := h.at_ hr (k := l1.length) (x := n) (by rw [hs]; simp)
  have hd := (h.hd r hr).cell
  rw [e] at hd
  exact ⟨g, cap, _, e, rfl, h0, by rw [hs]; simp, h1, hd, v1, v2⟩

section
variable (h : RaAt base w b gr gu nr room hv R V) (n : Int) (hn : ∀ r, r < nr → ∀ m ∈ R r, (m : Int) ≠ n)
include h hn
theorem ra_get_no : Calls Try.prog 122 #[.pointer (some ⟨b, 0, none⟩), .int .i64 n] w fun e w' => e = .returned (.tuple #[.int .i64 0, .bool false]) ∧ w = w' := by
  have HW := Lib.hid (ra_where_no h n hn)
  clear h hn
  go_enter Try.func122, Try.ntmps122
  go_wp2_with fail
  refine HW.out.mono ?_
  rintro e w1 ⟨rfl, rfl⟩
  go_wp2_with fail
  go_returns
  exact ⟨rfl, rfl⟩
theorem ra_set_no (v : Int) : Calls Try.prog 124 #[.pointer (some ⟨b, 0, none⟩), .int .i64 n, .int .i64 v] w fun e w' => e = .returned (.bool false) ∧ w = w' := by
  have HW := Lib.hid (ra_where_no h n hn)
  clear h hn
  go_enter Try.func124, Try.ntmps124
  go_wp2_with fail
  refine HW.out.mono ?_
  rintro e w1 ⟨rfl, rfl⟩
  go_wp2_with fail
  go_returns
  exact ⟨rfl, rfl⟩
theorem ra_row_no : Calls Try.prog 126 #[.pointer (some ⟨b, 0, none⟩), .int .i64 n] w fun e w' => e = .returned (.int .i64 (-1)) ∧ w = w' := by
  have HW := Lib.hid (ra_where_no h n hn)
  clear h hn
  go_enter Try.func126, Try.ntmps126
  go_wp2_with fail
  refine HW.out.mono ?_
  rintro e w1 ⟨rfl, rfl⟩
  go_wp2_with fail
  go_returns
  exact ⟨rfl, rfl⟩
theorem ra_next_no : Calls Try.prog 128 #[.pointer (some ⟨b, 0, none⟩), .int .i64 n] w fun e w' => e = .returned (.int .i64 (-1)) ∧ w = w' := by
  have HW := Lib.hid (ra_where_no h n hn)
  clear h hn
  go_enter Try.func128, Try.ntmps128
  go_wp2_with fail
  refine HW.out.mono ?_
  rintro e w1 ⟨rfl, rfl⟩
  go_wp2_with fail
  go_returns
  exact ⟨rfl, rfl⟩
end

section
variable (h : RaAt base w b gr gu nr room hv R V) (ok : RowsOk nr room R) (r n : Nat) (hr : r < nr) (l1 l2 : List Nat) (hs : R r = l1 ++ n :: l2)
include h ok hr hs
theorem ra_get : Calls Try.prog 122 #[.pointer (some ⟨b, 0, none⟩), .int .i64 n] w fun e w' => e = .returned (.tuple #[.int .i64 (V n), .bool true]) ∧ w = w' := by
  have HW := Lib.hid (ra_where h ok r n hr l1 l2 hs)
  obtain ⟨g, cap, len, _, _, _, hp, hg, hd, v1, v2⟩ := h.spot hr hs
  have c0 := h.c0.cell
  have hlt := cell_lt c0
  have hgr := cell_lt hd
  have v2 := v2.cell
  have hgg := cell_lt v2
  have i1 : (0 : Int) ≤ (r : Int) ∧ (r : Int) < (nr : Int) := by omega
  obtain ⟨p, hpp⟩ : ∃ p, p = l1.length := ⟨_, rfl⟩
  rw [← hpp] at hp v2 HW
  have i2 : (0 : Int) ≤ (p : Int) ∧ (p : Int) < (len : Int) := by omega
  obtain ⟨v, hv⟩ : ∃ v, v = V n := ⟨_, rfl⟩
  rw [← hv] at v2 ⊢
  clear h ok hs hpp hv v1
  go_enter Try.func122, Try.ntmps122
  go_wp2_with fail
  refine HW.out.mono ?_
  rintro e w1 ⟨rfl, rfl⟩
  go_wp2_with fail
  go_returns
  exact ⟨rfl, rfl⟩
theorem ra_row : Calls Try.prog 126 #[.pointer (some ⟨b, 0, none⟩), .int .i64 n] w fun e w' => e = .returned (.int .i64 r) ∧ w = w' := by
  have HW := Lib.hid (ra_where h ok r n hr l1 l2 hs)
  clear h ok hs
  go_enter Try.func126, Try.ntmps126
  go_wp2_with fail
  refine HW.out.mono ?_
  rintro e w1 ⟨rfl, rfl⟩
  go_wp2_with fail
  go_returns
  exact ⟨rfl, rfl⟩
theorem ra_next : Calls Try.prog 128 #[.pointer (some ⟨b, 0, none⟩), .int .i64 n] w fun e w' => e = .returned (.int .i64 (hdI l2)) ∧ w = w' := by
  have HW := Lib.hid (ra_where h ok r n hr l1 l2 hs)
  obtain ⟨g, cap, len, eg, el, hc, hp, hg, hd, v1, v2⟩ := h.spot hr hs
  have hln := ok.len r hr
  rw [← el] at hln
  have hsm := h.small
  have c0 := h.c0.cell
  have hlt := cell_lt c0
  have hgr := cell_lt hd
  have i1 : (0 : Int) ≤ (r : Int) ∧ (r : Int) < (nr : Int) := by omega
  have el2 : len = l1.length + 1 + l2.length := by rw [el, hs]; simp; omega
  obtain ⟨p, hpp⟩ : ∃ p, p = l1.length := ⟨_, rfl⟩
  have w1 : IntKind.i64.wrap ((p : Int) + 1) = (p : Int) + 1 := by rw [IntKind.wrap_i64]; omega
  rw [← hpp] at hp HW
  cases l2 with
  | nil =>
    have e : hdI ([] : List Nat) = -1 := rfl
    rw [e]
    obtain rfl : len = p + 1 := by rw [el2, ← hpp]; rfl
    have t1 : ((p : Int) + 1 == ((p + 1 : Nat) : Int)) = true := by simp
    clear h ok hs hpp v1 v2 e el el2 eg
    go_enter Try.func128, Try.ntmps128
    go_wp2_with fail
    refine HW.out.mono ?_
    rintro e w1 ⟨rfl, rfl⟩
    go_wp2_with fail
    go_returns
    exact ⟨rfl, rfl⟩
  | cons x t =>
    have e : hdI (x :: t) = (x : Int) := rfl
    rw [e]
    obtain ⟨g', cap', e', h0, h1, h2, v3, v4⟩ := h.at_ hr (k := p + 1) (x := x) (by rw [hs, hpp]; simp)
    rw [eg, ← el] at e'
    obtain ⟨rfl, rfl⟩ : g = g' ∧ cap = cap' := by injection e' with e1 e2 e3; injection e1 with e1; injection e1 with e1; exact ⟨e1, e3⟩
    have v3 := v3.cell
    have hgg := cell_lt v3
    have hl3 : p + 1 < len := by rw [el2, ← hpp]; simp
    have i2 : (0 : Int) ≤ (p : Int) + 1 ∧ (p : Int) + 1 < (len : Int) := by omega
    have t1 : ((p : Int) + 1 == (len : Int)) = false := by simp; omega
    have t3 : ((p : Int) + 1).toNat = p + 1 := by omega
    clear h ok hs hpp v1 v2 v4 e el el2 eg e'
    go_enter Try.func128, Try.ntmps128
    go_wp2_with fail
    refine HW.out.mono ?_
    rintro e w1 ⟨rfl, rfl⟩
    go_wp2_with fail
    go_returns
    exact ⟨rfl, rfl⟩

theorem ra_set (v : Int) : Calls Try.prog 124 #[.pointer (some ⟨b, 0, none⟩), .int .i64 n, .int .i64 v] w fun e w' => e = .returned (.bool true) ∧ RaAt base w' b gr gu nr room hv R (upd V n v) ∧ Only (RaB base b gr gu) w w' := by
  have HW := Lib.hid (ra_where h ok r n hr l1 l2 hs)
  obtain ⟨g, cap, len, eg, el, hc, hp, hg, hd, v1, v2⟩ := h.spot hr hs
  have hsm := h.small
  have c0 := h.c0.cell
  have hlt := cell_lt c0
  have hgr := cell_lt hd
  have hgg := v2.lt
  have hfr := v2.free
  have hce := v2.cell
  have hfin : RaAt base (w.setCell ⟨g, l1.length * 2 + 1, none⟩ (.int .i64 v)) b gr gu nr room hv R (upd V n v) := by
    have ho := (Only.refl (· = g) w).setCell (p := ⟨g, l1.length * 2 + 1, none⟩) (.inl rfl) (.int .i64 v)
    have hlo := h.lows
    refine ⟨h.c0.only ho (by omega), h.c1.only ho (by omega), h.c2.only ho (by omega), fun k hk => (h.us k hk).only ho (by omega), fun i hi => (h.hd i hi).only ho (by omega), fun i hi => ?_, h.dis, h.lows, h.ne, Nat.le_trans h.low ho.size, h.small⟩
    by_cases e : i = r
    · subst e
      have own := h.own i hi
      refine ⟨by rw [thV_length], .inr ?_⟩
      rcases own.2 with ⟨_, e⟩ | ⟨g', cap', cur, e', hb, hgh, q1, q2, q3, q4⟩
      · omega
      · rw [eg] at e'
        obtain ⟨rfl, _, rfl⟩ : g = g' ∧ len = (R i).length ∧ cap = cap' := by injection e' with e1 e2 e3; injection e1 with e1; injection e1 with e1; exact ⟨e1, e2, e3⟩
        have hcs : cur.size = cap * 2 := q3
        refine ⟨g, cap, cur.setIfInBounds (l1.length * 2 + 1) (.int .i64 v), by rw [eg, el], hb, ?_, q1, q2, by rw [Array.size_setIfInBounds]; exact q3, ?_⟩
        · show (w.heap.modify g _)[g]? = _
          rw [Array.getElem?_eq_getElem (by rw [Array.size_modify]; exact hgg), Array.getElem_modify_self, (Array.getElem?_eq_some_iff.1 hgh).2]
          rfl
        · rw [Array.toList_setIfInBounds, List.take_set, q4, hs]
          rw [thV_append, thV_append]
          have e1 : thV V (n :: l2) = [.int .i64 n, .int .i64 (V n)] ++ thV V l2 := rfl
          have e2 : thV (upd V n v) (n :: l2) = [.int .i64 n, .int .i64 (upd V n v n)] ++ thV (upd V n v) l2 := rfl
          have nd := ok.nd i hi
          rw [hs] at nd
          have nd2 := List.nodup_append.1 nd
          have n1 : n ∉ l1 := fun hm => nd2.2.2 n hm n (by simp) rfl
          have n2 : n ∉ l2 := (List.nodup_cons.1 nd2.2.1).1
          rw [e1, e2, upd_same, thV_congr (V := V) (V' := upd V n v) (l := l1) (fun k hk => upd_other (fun e => n1 (e ▸ hk))), thV_congr (V := V) (V' := upd V n v) (l := l2) (fun k hk => upd_other (fun e => n2 (e ▸ hk)))]
          rw [List.set_append_right _ _ (by rw [thV_length]; omega), thV_length, show l1.length * 2 + 1 - l1.length * 2 = 1 by omega]
          rfl
    · have hne : n ∉ R i := fun hm => e (ok.other i r n hi hr hm (by rw [hs]; simp))
      rw [thV_congr (V := V) (V' := upd V n v) (fun k hk => upd_other (fun e => hne (e ▸ hk)))]
      have own := h.own i hi
      refine ⟨own.1, ?_⟩
      rcases own.2 with hn | ⟨g', cap', cur, e', hb, hgh, rest⟩
      · exact .inl hn
      · refine .inr ⟨g', cap', cur, e', hb, (ho.block g' (Array.getElem?_eq_some_iff.1 hgh).1 (fun eq => ?_)).trans hgh, rest⟩
        rcases h.dis r i hr hi (fun q => e q.symm) with q | q
        · rw [eg] at q; cases q
        · rw [eg, e', eq] at q; exact q rfl
  have i1 : (0 : Int) ≤ (r : Int) ∧ (r : Int) < (nr : Int) := by omega
  obtain ⟨p, hpp⟩ : ∃ p, p = l1.length := ⟨_, rfl⟩
  rw [← hpp] at hp HW hfr hce hfin
  have i2 : (0 : Int) ≤ (p : Int) ∧ (p : Int) < (len : Int) := by omega
  have HF := Lib.hid hfin
  have HG := Lib.hid hg
  clear h ok hs hpp v1 v2 el eg hfin hg
  go_enter Try.func124, Try.ntmps124
  go_wp2_with fail
  refine HW.out.mono ?_
  rintro e w1 ⟨rfl, rfl⟩
  go_wp2_with fail
  go_returns
  exact ⟨rfl, HF.out, (Only.refl _ w).setCell (.inl (.inr (.inr (.inr HG.out)))) _⟩
end

theorem ra_len (h : RaAt base w b gr gu nr room hv R V) (r : Nat) (hr : r < nr) :
    Calls Try.prog 129 #[.pointer (some ⟨b, 0, none⟩), .int .i64 r] w fun e w' => e = .returned (.int .i64 (R r).length) ∧ w = w' := by
  have HI := Lib.hid (ra_is h r true (by simp [hr]))
  have c0 := h.c0.cell
  have hd := (h.hd r hr).cell
  obtain ⟨a, cap, e, _⟩ := own_slice (h.own r hr)
  rw [e] at hd
  have hlt := cell_lt c0
  have hgr := cell_lt hd
  have i1 : (0 : Int) ≤ (r : Int) ∧ (r : Int) < (nr : Int) := by omega
  generalize (R r).length = len at *
  clear h e
  go_enter Try.func129, Try.ntmps129
  go_wp2_with fail
  refine HI.out.mono ?_
  rintro e w1 ⟨rfl, rfl⟩
  go_wp2_with fail
  go_returns
  exact ⟨rfl, rfl⟩
theorem ra_len_no (h : RaAt base w b gr gu nr room hv R V) (r : Int) (hr : ¬ (0 ≤ r ∧ r < nr)) :
    Calls Try.prog 129 #[.pointer (some ⟨b, 0, none⟩), .int .i64 r] w fun e w' => e = .returned (.int .i64 0) ∧ w = w' := by
  have HI := Lib.hid (ra_is h r false (decide_eq_false hr))
  clear h hr
  go_enter Try.func129, Try.ntmps129
  go_wp2_with fail
  refine HI.out.mono ?_
  rintro e w1 ⟨rfl, rfl⟩
  go_wp2_with fail
  go_returns
  exact ⟨rfl, rfl⟩

theorem ra_first_no (h : RaAt base w b gr gu nr room hv R V) (r : Int) (hr : ¬ (0 ≤ r ∧ r < nr)) :
    Calls Try.prog 127 #[.pointer (some ⟨b, 0, none⟩), .int .i64 r] w fun e w' => e = .returned (.int .i64 (-1)) ∧ w = w' := by
  have HI := Lib.hid (ra_is h r false (decide_eq_false hr))
  clear h hr
  go_enter Try.func127, Try.ntmps127
  go_wp2_with fail
  refine HI.out.mono ?_
  rintro e w1 ⟨rfl, rfl⟩
  go_wp2_with fail
  go_returns
  exact ⟨rfl, rfl⟩
theorem ra_first (h : RaAt base w b gr gu nr room hv R V) (r : Nat) (hr : r < nr) :
    Calls Try.prog 127 #[.pointer (some ⟨b, 0, none⟩), .int .i64 r] w fun e w' => e = .returned (.int .i64 (hdI (R r))) ∧ w = w' := by
  have HI := Lib.hid (ra_is h r true (by simp [hr]))
  have c0 := h.c0.cell
  have hlt := cell_lt c0
  have i1 : (0 : Int) ≤ (r : Int) ∧ (r : Int) < (nr : Int) := by omega
  cases hl : R r with
  | nil =>
    have hd := (h.hd r hr).cell
    obtain ⟨a, cap, e, _⟩ := own_slice (h.own r hr)
    rw [e, hl] at hd
    have hgr := cell_lt hd
    have e : hdI ([] : List Nat) = -1 := rfl
    rw [e]
    clear h hl e
    simp only [List.length_nil] at hd
    go_enter Try.func127, Try.ntmps127
    go_wp2_with fail
    refine HI.out.mono ?_
    rintro e w1 ⟨rfl, rfl⟩
    go_wp2_with fail
    go_returns
    exact ⟨rfl, rfl⟩
  | cons x t =>
    obtain ⟨g, cap, len, _, el, _, hp, hg, hd, v1, v2⟩ := h.spot (l1 := []) hr hl
    have hgr := cell_lt hd
    have v1 := v1.cell
    have hgg := cell_lt v1
    have e : hdI (x :: t) = (x : Int) := rfl
    rw [e]
    simp only [List.length_nil, Nat.zero_mul] at hp v1
    have t1 : ((len : Int) == 0) = false := by simp; omega
    have t2 : (len == 0) = false := by simp; omega
    have i2 : (0 : Int) < (len : Int) := by omega
    clear h hl e el v2
    go_enter Try.func127, Try.ntmps127
    go_wp2_with fail
    refine HI.out.mono ?_
    rintro e w1 ⟨rfl, rfl⟩
    go_wp2_with fail
    go_returns
    exact ⟨rfl, rfl⟩

set_option maxHeartbeats 1000000 in
theorem ra_free (h : RaAt base w b gr gu nr room hv R V) (k : Nat) (hk : k + (rowsL R nr).length = room) :
    Calls Try.prog 130 #[.pointer (some ⟨b, 0, none⟩)] w fun e w' => e = .returned (.int .i64 k) ∧ w = w' := by
  have c0 := h.c0.cell
  have c1 := h.c1.cell
  have hlt := cell_lt c0
  have hsm := h.small
  have HH := Lib.hid h
  have HK := Lib.hid hk
  clear h hk
  go_enter Try.func130, Try.ntmps130
  go_wp2_with fail
  go_loop [3, 4] (fun s3 s4 => ∃ j m : Nat, j ≤ nr ∧ m + (rowsL R j).length = room ∧ s3 = .int .i64 m ∧ s4 = .int .i64 j) (fun _ s => nr - (intOf s).toNat)
  case atStart => exact ⟨0, room, by omega, rfl, rfl, rfl⟩
  case round =>
    obtain ⟨j, m, hj, hm, rfl, rfl⟩ := hrel
    by_cases hlt2 : j < nr
    · have tj : decide (j < nr) = true := by simpa using hlt2
      have ij : (0 : Int) ≤ (j : Int) ∧ (j : Int) < (nr : Int) := by omega
      have hd := (HH.out.hd j hlt2).cell
      obtain ⟨a, cap, e, _⟩ := own_slice (HH.out.own j hlt2)
      rw [e] at hd
      have hgr := cell_lt hd
      have hk := HK.out
      have hle := rowsL_le R (show j + 1 ≤ nr by omega)
      have e1 : (rowsL R (j + 1)).length = (rowsL R j).length + (R j).length := by simp [rowsL]
      obtain ⟨m', hm'⟩ : ∃ m', m = m' + (R j).length := ⟨m - (R j).length, by omega⟩
      have e2 : m' + (rowsL R (j + 1)).length = room := by omega
      have E2 := Lib.hid e2
      have hm3 : m' ≤ 65536 := by omega
      obtain ⟨len, hl⟩ : ∃ len, (R j).length = len := ⟨_, rfl⟩
      rw [hl] at hd hm'
      subst hm'
      have w1 : IntKind.i64.wrap (((m' + len : Nat) : Int) - (len : Int)) = (m' : Int) := by rw [IntKind.wrap_i64]; omega
      have w2 : IntKind.i64.wrap ((j : Int) + 1) = (j : Int) + 1 := by rw [IntKind.wrap_i64]; omega
      clear hm hk hle e1 e2 e hl
      go_wp2_with fail
      go_round
      case rel => exact ⟨j + 1, m', by omega, E2.out, by first | rfl | go_num, by go_num⟩
      case measure => simp [intOf]; omega
    · have tj : decide (j < nr) = false := by simpa using hlt2
      obtain rfl : j = nr := by omega
      have hk := HK.out
      obtain rfl : m = k := by omega
      clear hm hk
      go_wp2_with fail
      go_ret
      exact ⟨rfl, rfl⟩
end
end Go.Proofs.Ytiiflgihjnlmcaa
