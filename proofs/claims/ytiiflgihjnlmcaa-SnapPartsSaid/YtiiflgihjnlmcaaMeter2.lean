/- The document's meter: Used. Conditions: the meter's numbers lie in their ranges. -/
import Derived.Test.YtiiflgihjnlmcaaMeter1
namespace Go.Proofs.Ytiiflgihjnlmcaa
set_option linter.unusedVariables false
set_option linter.unusedSimpArgs false
open Go.RowKit

theorem own_cell {w : World} {base : Nat} {e : TypeId} {size : Nat} {v : Value} {n : Nat} {xs : List Value} (h : w.ownsRow base e size v n xs) (hn : 0 < n) : ∃ g cap, v = .slice (some ⟨g, 0, none⟩) n cap ∧ base ≤ g ∧ g < w.heap.size ∧ ∀ j u, xs[j]? = some u → Cell w g j u := by
  rcases h.2 with ⟨_, e⟩ | ⟨g, cap, cur, rfl, hb, hgg, h1, h2, h3, h4⟩
  · omega
  · refine ⟨g, cap, rfl, hb, (Array.getElem?_eq_some_iff.1 hgg).1, fun j u hu => ?_⟩
    have hc := h.cells rfl j u hu
    rw [show (⟨g, 0, none⟩ : Addr).add j = ⟨g, j, none⟩ by unfold Addr.add; split <;> simp_all] at hc
    exact ⟨hc, by simp [World.frozen?, hgg]⟩

theorem own_slice {w : World} {base : Nat} {e : TypeId} {size : Nat} {v : Value} {n : Nat} {xs : List Value} (h : w.ownsRow base e size v n xs) : ∃ a cap, v = .slice a n cap := by
  rcases h.2 with ⟨rfl, rfl⟩ | ⟨g, cap, cur, rfl, _⟩
  · exact ⟨_, _, rfl⟩
  · exact ⟨_, _, rfl⟩

set_option maxHeartbeats 2000000 in
set_option maxRecDepth 100000 in
theorem r_used (base b gp gt k : Nat) (hv : Nat → Value) (T : Nat → List (Int × Int)) (m : Mt) (N : Nat) (c : Int) (w : World) (ok : MtOk m) (rok : RfOk m k T N) (hN : N ≤ 4398046511104) (h : RfAt base w b gp gt m k hv T) :
    Calls Try.prog 87 #[.pointer (some ⟨b, 0, none⟩), .int .i64 c] w fun e w' => e = .returned (.tuple #[.int .i64 (m.used c).1, .int .i64 (m.used c).2]) ∧ Only (fun _ => False) w w' := by
  by_cases hm : m.is c
  · have HI := Lib.hid (r_is base b gp gt k hv T m c w h)
    rw [decide_eq_true hm] at HI
    have e1 : m.used c = ((m.us c.toNat).1, m.eff c.toNat) := by unfold Mt.used; rw [if_pos hm]
    rw [e1]
    clear e1
    obtain ⟨i, rfl⟩ : ∃ i : Nat, c = i := ⟨c.toNat, by unfold Mt.is at hm; omega⟩
    rw [Int.toNat_natCast]
    have hi : i < k := by have := h.ek; have := hm.2; omega
    have hsum := rok.sum i hi
    have hat := rok.at0 i hi
    have hln := rok.len i hi
    have ac6 := ok.ac6
    have hef := ok.eff i
    have hw1 := ok.win1
    have hw2 := ok.win15
    have hn1 := ok.now0
    have hn2 := ok.now15
    unfold Mt.w at hsum
    have H := Lib.hid h
    have c14 := h.c14.cell
    have c15 := h.c15.cell
    have c16 := h.c16.cell
    have c17 := h.c17.cell
    have pl := (h.pl i hi).cell
    have hd := (h.hd i hi).cell
    have own := h.own i hi
    have hvi : ∃ vi, hv i = vi := ⟨_, rfl⟩
    obtain ⟨vi, hvi⟩ := hvi
    rw [hvi] at hd own
    have HV := Lib.hid hvi
    generalize hTi : T i = Ti at *
    have hlt := cell_lt c14
    have h31 : (k : Int) ≤ 9 := by have := h.ek; have := ok.cl8; omega
    clear h ok rok hvi hTi hm
    obtain ⟨a, cap, rfl⟩ := own_slice own
    obtain ⟨n, hn⟩ : ∃ n, n = Ti.length := ⟨_, rfl⟩
    rw [← hn] at own hln HV
    have OWN := Lib.hid own
    have HAT := Lib.hid hat
    clear own hat
    have HN := Lib.hid hn
    clear hn
    obtain ⟨pi, hpi⟩ : ∃ x, (m.us i).1 = x := ⟨_, rfl⟩
    obtain ⟨ef, hef2⟩ : ∃ x, m.eff i = x := ⟨_, rfl⟩
    rw [hef2] at hsum hef
    rw [hpi, hef2]
    have HPI := Lib.hid hpi
    clear hpi hef2
    obtain ⟨win, hwin⟩ : ∃ x, m.win = x := ⟨_, rfl⟩
    obtain ⟨now, hnow⟩ : ∃ x, m.now = x := ⟨_, rfl⟩
    have HW := Lib.hid hwin
    have HNO := Lib.hid hnow
    rw [hwin, hnow] at hsum
    rw [hwin] at hw1 hw2
    rw [hnow] at hn1 hn2 HAT
    clear hwin hnow
    go_enter Try.func87, Try.ntmps87
    go_wp2_with fail
    refine HI.out.mono ?_
    rintro e w1 ⟨rfl, ho⟩
    clear HI c14 c15 c16 c17 pl hd
    go_wp2_with fail
    go_loopw [7, 8] (fun s7 s wr => ∃ j : Nat, j ≤ n ∧ s7 = .int .i64 (sumIn win (now / win) (Ti.take j)) ∧ s = .int .i64 j ∧ Only (fun _ => False) w wr)
      (fun _ s _ => n - (intOf s).toNat)
    case atStart => exact ⟨0, by omega, rfl, rfl, ho⟩
    case round =>
      obtain ⟨j, hj, rfl, rfl, hr⟩ := hrel
      have R := H.out.only hr (fun _ _ => id)
      have c14 := R.c14.cell
      have c15 := R.c15.cell
      have c16 := R.c16.cell
      have c17 := R.c17.cell
      have pl := (R.pl i hi).cell
      have hd := (R.hd i hi).cell
      rw [HV.out] at hd
      rw [HPI.out] at pl
      rw [HW.out] at c14
      rw [HNO.out] at c15
      clear R
      have hglt := cell_lt c17
      have hgp := cell_lt pl
      have hgt := cell_lt hd
      have i1 : (0 : Int) ≤ (i : Int) ∧ (i : Int) < (k : Int) := by omega
      by_cases hlt2 : j < n
      · obtain ⟨g, cap', e1, hg, hg2, hcl⟩ := own_cell (ownsRow_only (S := fun _ => False) OWN.out hr (fun _ _ => id)) (by omega)
        obtain ⟨rfl, rfl⟩ : a = some ⟨g, 0, none⟩ ∧ cap = cap' := by injection e1 with e1 e2 e3; exact ⟨e1, e3⟩
        clear e1
        obtain ⟨x, hx⟩ : ∃ x, Ti[j]? = some x := ⟨_, List.getElem?_eq_getElem (by rw [← HN.out]; exact hlt2)⟩
        obtain ⟨t1, t2⟩ := takeV_at hx
        have v1 := (hcl _ _ t1).cell
        have v2 := (hcl _ _ t2).cell
        have e3 : Ti.take (j + 1) = Ti.take j ++ [x] := by rw [List.take_add_one, hx]; rfl
        have e4 := sumIn_append win (now / win) (Ti.take j) [x]
        rw [← e3] at e4
        simp only [sumIn] at e4
        have hb1 := sumIn_take (win := win) (ww := now / win) (fun y hy => (HAT.out y hy).2.2) (j + 1)
        have hb0 := sumIn_take (win := win) (ww := now / win) (fun y hy => (HAT.out y hy).2.2) j
        have hxx := HAT.out x (List.mem_of_getElem? hx)
        rw [hsum] at hb1 hb0
        obtain ⟨S1, hS1⟩ : ∃ S1, S1 = sumIn win (now / win) (Ti.take (j + 1)) := ⟨_, rfl⟩
        obtain ⟨S, hS⟩ : ∃ S, S = sumIn win (now / win) (Ti.take j) := ⟨_, rfl⟩
        rw [← hS1] at e4 hb1
        rw [← hS] at e4 hb0 ⊢
        obtain ⟨xa, xn⟩ := x
        simp only at *
        have HS1 := Lib.hid hS1
        clear hS1 hS hsum t1 t2 hx e3
        have hdx := Int.ediv_le_self win hxx.1
        have hdx0 := Int.ediv_nonneg hxx.1 (show 0 ≤ win by omega)
        by_cases he : xa / win = now / win
        · rw [if_pos he] at e4
          have w1 : IntKind.i64.wrap (S + xn) = S + xn := by rw [IntKind.wrap_i64]; omega
          have w2 : IntKind.i64.wrap ((j : Int) + 1) = j + 1 := by rw [IntKind.wrap_i64]; omega
          have t1 : decide ((j : Int) < (n : Int)) = true := by simp; omega
          have t2 : (xa / win == now / win) = true := by simpa using he
          have i2 : (0 : Int) ≤ (j : Int) ∧ (j : Int) < (n : Int) := by omega
          clear he hb0
          go_wp2_with fail
          go_quiet (fail)
          go_wp2_with fail
          go_roundw
          case rel => exact ⟨j + 1, by omega, by rw [← HS1.out, e4]; congr 1; omega, by go_num, by repeat' (first | (with_reducible exact Only.refl _ _) | (with_reducible assumption) | (refine Only.of_none ?_; with_reducible assumption) | (with_reducible refine Only.drewN ?_ _) | (with_reducible refine Only.drew ?_) | (with_reducible refine Only.alloc ?_ _) | (with_reducible refine Only.setCell ?_ ?_ _) | (with_reducible refine Only.then0 ?_ (by with_reducible assumption)) | (with_reducible refine Only.thenN ?_ (by with_reducible assumption) ?_) | (with_reducible refine Only.trans ?_ (by with_reducible assumption)) | (refine .inl ?_; first | rfl | (simp; done) | (simp [Ar.blk]; done)) | (refine .inr ?_; first | omega | (simp; done) | (simp; omega) | exact Only.size (by with_reducible assumption) | (refine Nat.le_trans (Only.size (by with_reducible assumption)) ?_; simp; done)))⟩
          case measure => simp [intOf]; omega
        · rw [if_neg he] at e4
          have w2 : IntKind.i64.wrap ((j : Int) + 1) = j + 1 := by rw [IntKind.wrap_i64]; omega
          have t1 : decide ((j : Int) < (n : Int)) = true := by simp; omega
          have t2 : (xa / win == now / win) = false := by simpa using he
          have i2 : (0 : Int) ≤ (j : Int) ∧ (j : Int) < (n : Int) := by omega
          clear he hb0
          go_wp2_with fail
          go_quiet (fail)
          go_wp2_with fail
          go_roundw
          case rel => exact ⟨j + 1, by omega, by rw [← HS1.out, e4]; congr 1; omega, by go_num, by repeat' (first | (with_reducible exact Only.refl _ _) | (with_reducible assumption) | (refine Only.of_none ?_; with_reducible assumption) | (with_reducible refine Only.drewN ?_ _) | (with_reducible refine Only.drew ?_) | (with_reducible refine Only.alloc ?_ _) | (with_reducible refine Only.setCell ?_ ?_ _) | (with_reducible refine Only.then0 ?_ (by with_reducible assumption)) | (with_reducible refine Only.thenN ?_ (by with_reducible assumption) ?_) | (with_reducible refine Only.trans ?_ (by with_reducible assumption)) | (refine .inl ?_; first | rfl | (simp; done) | (simp [Ar.blk]; done)) | (refine .inr ?_; first | omega | (simp; done) | (simp; omega) | exact Only.size (by with_reducible assumption) | (refine Nat.le_trans (Only.size (by with_reducible assumption)) ?_; simp; done)))⟩
          case measure => simp [intOf]; omega
      · have t1 : decide (j < n) = false := by simp; omega
        have e5 : sumIn win (now / win) (Ti.take j) = ef := by rw [List.take_of_length_le (by rw [← HN.out]; omega)]; exact hsum
        rw [e5]
        clear hsum hlt2 e5
        go_wp2_with fail
        go_returns
        exact ⟨rfl, by repeat' (first | (with_reducible exact Only.refl _ _) | (with_reducible assumption) | (refine Only.of_none ?_; with_reducible assumption) | (with_reducible refine Only.drewN ?_ _) | (with_reducible refine Only.drew ?_) | (with_reducible refine Only.alloc ?_ _) | (with_reducible refine Only.setCell ?_ ?_ _) | (with_reducible refine Only.then0 ?_ (by with_reducible assumption)) | (with_reducible refine Only.thenN ?_ (by with_reducible assumption) ?_) | (with_reducible refine Only.trans ?_ (by with_reducible assumption)) | (refine .inl ?_; first | rfl | (simp; done) | (simp [Ar.blk]; done)) | (refine .inr ?_; first | omega | (simp; done) | (simp; omega) | exact Only.size (by with_reducible assumption) | (refine Nat.le_trans (Only.size (by with_reducible assumption)) ?_; simp; done)))⟩
  · have HI := Lib.hid (r_is base b gp gt k hv T m c w h)
    rw [decide_eq_false hm] at HI
    have e1 : m.used c = (0, 0) := by unfold Mt.used; rw [if_neg hm]
    rw [e1]
    clear e1 ok hm h rok
    go_enter Try.func87, Try.ntmps87
    go_wp2_with fail
    refine HI.out.mono ?_
    rintro e w1 ⟨rfl, ho⟩
    go_wp2
    go_returns
    exact ⟨rfl, by repeat' (first | (with_reducible exact Only.refl _ _) | (with_reducible assumption) | (refine Only.of_none ?_; with_reducible assumption) | (with_reducible refine Only.drewN ?_ _) | (with_reducible refine Only.drew ?_) | (with_reducible refine Only.alloc ?_ _) | (with_reducible refine Only.setCell ?_ ?_ _) | (with_reducible refine Only.then0 ?_ (by with_reducible assumption)) | (with_reducible refine Only.thenN ?_ (by with_reducible assumption) ?_) | (with_reducible refine Only.trans ?_ (by with_reducible assumption)) | (refine .inl ?_; first | rfl | (simp; done) | (simp [Ar.blk]; done)) | (refine .inr ?_; first | omega | (simp; done) | (simp; omega) | exact Only.size (by with_reducible assumption) | (refine Nat.le_trans (Only.size (by with_reducible assumption)) ?_; simp; done)))⟩
end Go.Proofs.Ytiiflgihjnlmcaa
