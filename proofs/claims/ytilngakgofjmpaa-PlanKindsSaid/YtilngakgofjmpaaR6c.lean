/- The document's book: Facing, Open. Conditions: a book as its New lays it. -/
import Derived.Test.YtilngakgofjmpaaR6b
namespace Go.Proofs.Ytilngakgofjmpaa
set_option linter.unusedVariables false
set_option linter.unusedSimpArgs false
open Go.RowKit Go.Shelf
open Od (OrdR)

theorem facL_snoc (sg lim : Int) (l : List OrdR) (x : OrdR) : facL sg lim (l ++ [x]) = if lim = 0 ∨ sg * x.p ≤ sg * lim then facL sg lim l ++ [x] else facL sg lim l := by
  unfold facL
  by_cases h0 : lim = 0
  · rw [if_pos h0, if_pos h0, if_pos (.inl h0)]
  · rw [if_neg h0, if_neg h0, List.filter_append]
    by_cases h : sg * x.p ≤ sg * lim
    · rw [if_pos (.inr h)]; simp [h]
    · rw [if_neg (by rintro (e | e); exact h0 e; exact h e)]; simp [h]
theorem facL_len (sg lim : Int) (m : List OrdR) : (facL sg lim m).length ≤ m.length := by
  unfold facL
  split
  · exact Nat.le_refl _
  · exact List.length_filter_le _ _
theorem OrdAt.elt {w : World} {a : Option Addr} {l : List OrdR} (h : OrdAt w a l) {W : World} (o : Only (fun _ => False) w W) {j : Nat} {x : OrdR} (hx : l[j]? = some x) : ∃ g, a = some ⟨g, 0, none⟩ ∧ g < W.heap.size ∧ W.cell? ⟨g, j * 5, none⟩ = some (.int .i64 x.i) ∧ W.cell? ⟨g, j * 5 + 1, none⟩ = some (.int .i64 x.c) ∧ W.cell? ⟨g, j * 5 + 2, none⟩ = some (.int .u8 x.s) ∧ W.cell? ⟨g, j * 5 + 3, none⟩ = some (.int .i64 x.p) ∧ W.cell? ⟨g, j * 5 + 4, none⟩ = some (.int .i64 x.q) := h.only o (fun _ _ => id) j x hx

section
variable {w : World} {r most room : Nat} {vv : Bool → Value} {T : Nat → Prop} {l : Bool → List OrdR}

set_option maxRecDepth 100000 in
set_option maxHeartbeats 4000000 in
theorem r6_fac1 (h : R6M w r vv most room l) (hl : ∀ q, (l q).length ≤ 1000000) (lim : Int) :
    Calls Try.prog 91 #[.pointer (some ⟨r, 0, none⟩), .int .u8 1, .int .i64 lim] w (ListPost w (facL 1 lim (l true))) := by
  obtain ⟨i3, hi3, hz3, hs3, hb3⟩ := info_parts Try.infoOrder
  obtain ⟨a, cap, hvv, hcap, hat⟩ := OrdAt.of_own (h.own true)
  have c2 := h.c3.cell
  rw [hvv] at c2
  have hln := hl true
  obtain ⟨L, hL⟩ : ∃ L, L = l true := ⟨_, rfl⟩
  rw [← hL] at c2 hln hat ⊢
  obtain ⟨n, hn⟩ : ∃ n, n = L.length := ⟨_, rfl⟩
  rw [← hn] at c2 hln
  have HN := Lib.hid hn
  have HA := Lib.hid hat
  have zb := cell_lt c2
  have HI := Lib.hid (⟨hi3, hz3, hs3, hb3⟩ : _ ∧ _ ∧ _ ∧ _)
  clear h hn hvv hat hL hl hcap hi3 hz3 hs3 hb3
  go_enter Try.func91, Try.ntmps91
  go_wp2_with fail
  go_loopw [7, 8] (fun s7 s8 wr => ∃ (j : Nat) (v : Value), j ≤ n ∧ s7 = v ∧ s8 = .int .i64 j ∧ Only (fun _ => False) w wr ∧ wr.ownsRow w.heap.size 54 5 v (facL 1 lim (L.take j)).length (ordC (facL 1 lim (L.take j)))) (fun _ s _ => n - (intOf s).toNat)
  case atStart => exact ⟨0, _, Nat.zero_le _, rfl, rfl, Only.refl _ _, by rw [List.take_zero]; unfold facL; simp only [List.filter_nil, ite_self]; exact World.ownsRow_nil _ _ _ _⟩
  case round =>
    obtain ⟨j, v, hj, e7, rfl, ho, hown⟩ := hrel
    replace e7 := e7.symm
    subst e7
    have c2 := ho.cell c2 id
    have zb := cell_lt c2
    by_cases hlt : j < n
    · have tj : decide (j < n) = true := by simpa using hlt
      obtain ⟨x, hx⟩ : ∃ x, L[j]? = some x := ⟨_, List.getElem?_eq_getElem (by rw [← HN.out]; exact hlt)⟩
      obtain ⟨g, rfl, hg, b0, b1, b2, b3, b4⟩ := HA.out.elt ho hx
      have ij : (0 : Int) ≤ (j : Int) ∧ (j : Int) < (n : Int) := by omega
      have w1 : IntKind.i64.wrap ((j : Int) + 1) = (j : Int) + 1 := by rw [IntKind.wrap_i64]; omega
      have hpl := facL_len 1 lim (L.take j)
      have htl : (L.take j).length ≤ j := List.length_take_le _ _
      have e2 := facL_snoc 1 lim (L.take j) x
      rw [show L.take j ++ [x] = L.take (j + 1) by rw [List.take_add_one, hx]; rfl] at e2
      obtain ⟨c, hc⟩ : ∃ c, c = (facL 1 lim (L.take j)).length := ⟨_, rfl⟩
      obtain ⟨xs, hxs⟩ : ∃ xs, xs = ordC (facL 1 lim (L.take j)) := ⟨_, rfl⟩
      rw [← hc, ← hxs] at hown
      rw [← hc] at hpl
      have hwsz := ho.size
      obtain ⟨oi, oc, os, op, oq⟩ := x
      simp only at b0 b1 b2 b3 b4 e2
      by_cases hin : lim = 0 ∨ 1 * op ≤ 1 * lim
      · rw [if_pos hin] at e2
        obtain ⟨hi3, hz3, hs3, hb3⟩ := HI.out
        obtain ⟨v', W2, hr2, hw2, hg2, hloc⟩ := append_own (P := Try.prog) (ty := 52) Try.underlying52 hi3 hz3 hs3 hb3 rfl (by decide) (ownsRow_apart hown ((Only.refl (fun _ => False) wr).alloc (.cells #[.int .i64 oi, .int .i64 oc, .int .u8 os, .int .i64 op, .int .i64 oq] 54)) (fun _ _ => id)) ⟨wr.heap.size, 0, none⟩ 1 1 [.int .i64 oi, .int .i64 oc, .int .u8 os, .int .i64 op, .int .i64 oq] rfl (cell_five_new wr _ _ _ _ _ _) (by simp [Value.oneCell']) (by unfold maxLen; omega) (by omega) (by rw [World.size_alloc]; omega)
        have o06 : Only (fun _ => False) w W2 := (ho.alloc _).new (Only.of_grown hg2 (fun q e => (hown.lt q e).1))
        have E2 := Lib.hid e2
        have HW2 := Lib.hid hw2
        have O06 := Lib.hid o06
        have HCC := Lib.hid hc
        have HXS := Lib.hid hxs
        clear hi3 hz3 hs3 hb3 hw2 hg2 hloc o06 e2 hown ho hc hxs hx hpl htl
        by_cases h0 : lim = 0
        · subst h0
          clear hin
          go_wp2_with (at_builtin; refine wpList_append_run rfl (.tmp 36) (.tmp 44) 52 rfl _ _ _ rfl rfl hr2 ?_)
          go_roundw
          case rel => exact ⟨j + 1, v', by omega, rfl, by go_num, O06.out, by rw [E2.out, ordC_append, List.length_append, ← HCC.out, ← HXS.out]; exact HW2.out⟩
          case measure => simp [intOf]; omega
        · have t1 : (lim == 0) = false := by simpa using h0
          have t2 : decide (op ≤ lim) = true := by rcases hin with h | h; exact absurd h h0; simp; omega
          clear hin h0
          go_wp2_with (at_builtin; refine wpList_append_run rfl (.tmp 36) (.tmp 44) 52 rfl _ _ _ rfl rfl hr2 ?_)
          go_roundw
          case rel => exact ⟨j + 1, v', by omega, rfl, by go_num, O06.out, by rw [E2.out, ordC_append, List.length_append, ← HCC.out, ← HXS.out]; exact HW2.out⟩
          case measure => simp [intOf]; omega
      · rw [if_neg hin] at e2
        have h0 : ¬ lim = 0 := fun e => hin (.inl e)
        have t1 : (lim == 0) = false := by simpa using h0
        have t2 : decide (op ≤ lim) = false := by have : ¬ 1 * op ≤ 1 * lim := fun e => hin (.inr e); simp; omega
        have E2 := Lib.hid e2
        have HOWN := Lib.hid hown
        have HO := Lib.hid ho
        have HCC := Lib.hid hc
        have HXS := Lib.hid hxs
        clear e2 hown ho hc hxs hx hpl htl hin h0
        go_wp2_with fail
        go_roundw
        case rel => exact ⟨j + 1, v, by omega, rfl, by go_num, by have := HO.out; repeat' (first | (with_reducible exact Only.refl _ _) | (with_reducible assumption) | (refine Only.of_none ?_; with_reducible assumption) | (with_reducible refine Only.drewN ?_ _) | (with_reducible refine Only.drew ?_) | (with_reducible refine Only.alloc ?_ _) | (with_reducible refine Only.setCell ?_ ?_ _) | (with_reducible refine Only.then0 ?_ (by with_reducible assumption)) | (with_reducible refine Only.thenN ?_ (by with_reducible assumption) ?_) | (with_reducible refine Only.trans ?_ (by with_reducible assumption)) | (refine .inl ?_; first | rfl | (simp; done) | (simp [Ar.blk]; done)) | (refine .inr ?_; first | omega | (simp; done) | (simp; omega) | exact Only.size (by with_reducible assumption) | (refine Nat.le_trans (Only.size (by with_reducible assumption)) ?_; simp; done))), by rw [E2.out, ← HCC.out, ← HXS.out]; exact HOWN.out⟩
        case measure => simp [intOf]; omega
    · have tj : decide (j < n) = false := by simpa using hlt
      rw [List.take_of_length_le (by rw [← HN.out]; omega)] at hown
      have HOWN := Lib.hid hown
      have HO := Lib.hid ho
      clear hown ho
      go_wp2_with fail
      go_returns
      exact ⟨v, rfl, HOWN.out, HO.out⟩

set_option maxRecDepth 100000 in
set_option maxHeartbeats 4000000 in
theorem r6_fac2 (h : R6M w r vv most room l) (hl : ∀ q, (l q).length ≤ 1000000) (lim : Int) :
    Calls Try.prog 91 #[.pointer (some ⟨r, 0, none⟩), .int .u8 2, .int .i64 lim] w (ListPost w (facL (-1) lim (l false))) := by
  obtain ⟨i3, hi3, hz3, hs3, hb3⟩ := info_parts Try.infoOrder
  obtain ⟨a, cap, hvv, hcap, hat⟩ := OrdAt.of_own (h.own false)
  have c2 := h.c2.cell
  rw [hvv] at c2
  have hln := hl false
  obtain ⟨L, hL⟩ : ∃ L, L = l false := ⟨_, rfl⟩
  rw [← hL] at c2 hln hat ⊢
  obtain ⟨n, hn⟩ : ∃ n, n = L.length := ⟨_, rfl⟩
  rw [← hn] at c2 hln
  have HN := Lib.hid hn
  have HA := Lib.hid hat
  have zb := cell_lt c2
  have HI := Lib.hid (⟨hi3, hz3, hs3, hb3⟩ : _ ∧ _ ∧ _ ∧ _)
  clear h hn hvv hat hL hl hcap hi3 hz3 hs3 hb3
  go_enter Try.func91, Try.ntmps91
  go_wp2_with fail
  go_loopw [7, 9] (fun s7 s8 wr => ∃ (j : Nat) (v : Value), j ≤ n ∧ s7 = v ∧ s8 = .int .i64 j ∧ Only (fun _ => False) w wr ∧ wr.ownsRow w.heap.size 54 5 v (facL (-1) lim (L.take j)).length (ordC (facL (-1) lim (L.take j)))) (fun _ s _ => n - (intOf s).toNat)
  case atStart => exact ⟨0, _, Nat.zero_le _, rfl, rfl, Only.refl _ _, by rw [List.take_zero]; unfold facL; simp only [List.filter_nil, ite_self]; exact World.ownsRow_nil _ _ _ _⟩
  case round =>
    obtain ⟨j, v, hj, e7, rfl, ho, hown⟩ := hrel
    replace e7 := e7.symm
    subst e7
    have c2 := ho.cell c2 id
    have zb := cell_lt c2
    by_cases hlt : j < n
    · have tj : decide (j < n) = true := by simpa using hlt
      obtain ⟨x, hx⟩ : ∃ x, L[j]? = some x := ⟨_, List.getElem?_eq_getElem (by rw [← HN.out]; exact hlt)⟩
      obtain ⟨g, rfl, hg, b0, b1, b2, b3, b4⟩ := HA.out.elt ho hx
      have ij : (0 : Int) ≤ (j : Int) ∧ (j : Int) < (n : Int) := by omega
      have w1 : IntKind.i64.wrap ((j : Int) + 1) = (j : Int) + 1 := by rw [IntKind.wrap_i64]; omega
      have hpl := facL_len (-1) lim (L.take j)
      have htl : (L.take j).length ≤ j := List.length_take_le _ _
      have e2 := facL_snoc (-1) lim (L.take j) x
      rw [show L.take j ++ [x] = L.take (j + 1) by rw [List.take_add_one, hx]; rfl] at e2
      obtain ⟨c, hc⟩ : ∃ c, c = (facL (-1) lim (L.take j)).length := ⟨_, rfl⟩
      obtain ⟨xs, hxs⟩ : ∃ xs, xs = ordC (facL (-1) lim (L.take j)) := ⟨_, rfl⟩
      rw [← hc, ← hxs] at hown
      rw [← hc] at hpl
      have hwsz := ho.size
      obtain ⟨oi, oc, os, op, oq⟩ := x
      simp only at b0 b1 b2 b3 b4 e2
      by_cases hin : lim = 0 ∨ (-1) * op ≤ (-1) * lim
      · rw [if_pos hin] at e2
        obtain ⟨hi3, hz3, hs3, hb3⟩ := HI.out
        obtain ⟨v', W2, hr2, hw2, hg2, hloc⟩ := append_own (P := Try.prog) (ty := 52) Try.underlying52 hi3 hz3 hs3 hb3 rfl (by decide) (ownsRow_apart hown ((Only.refl (fun _ => False) wr).alloc (.cells #[.int .i64 oi, .int .i64 oc, .int .u8 os, .int .i64 op, .int .i64 oq] 54)) (fun _ _ => id)) ⟨wr.heap.size, 0, none⟩ 1 1 [.int .i64 oi, .int .i64 oc, .int .u8 os, .int .i64 op, .int .i64 oq] rfl (cell_five_new wr _ _ _ _ _ _) (by simp [Value.oneCell']) (by unfold maxLen; omega) (by omega) (by rw [World.size_alloc]; omega)
        have o06 : Only (fun _ => False) w W2 := (ho.alloc _).new (Only.of_grown hg2 (fun q e => (hown.lt q e).1))
        have E2 := Lib.hid e2
        have HW2 := Lib.hid hw2
        have O06 := Lib.hid o06
        have HCC := Lib.hid hc
        have HXS := Lib.hid hxs
        clear hi3 hz3 hs3 hb3 hw2 hg2 hloc o06 e2 hown ho hc hxs hx hpl htl
        by_cases h0 : lim = 0
        · subst h0
          clear hin
          go_wp2_with (at_builtin; refine wpList_append_run rfl (.tmp 71) (.tmp 79) 52 rfl _ _ _ rfl rfl hr2 ?_)
          go_roundw
          case rel => exact ⟨j + 1, v', by omega, rfl, by go_num, O06.out, by rw [E2.out, ordC_append, List.length_append, ← HCC.out, ← HXS.out]; exact HW2.out⟩
          case measure => simp [intOf]; omega
        · have t1 : (lim == 0) = false := by simpa using h0
          have t2 : decide (lim ≤ op) = true := by rcases hin with h | h; exact absurd h h0; simp; omega
          clear hin h0
          go_wp2_with (at_builtin; refine wpList_append_run rfl (.tmp 71) (.tmp 79) 52 rfl _ _ _ rfl rfl hr2 ?_)
          go_roundw
          case rel => exact ⟨j + 1, v', by omega, rfl, by go_num, O06.out, by rw [E2.out, ordC_append, List.length_append, ← HCC.out, ← HXS.out]; exact HW2.out⟩
          case measure => simp [intOf]; omega
      · rw [if_neg hin] at e2
        have h0 : ¬ lim = 0 := fun e => hin (.inl e)
        have t1 : (lim == 0) = false := by simpa using h0
        have t2 : decide (lim ≤ op) = false := by have : ¬ (-1) * op ≤ (-1) * lim := fun e => hin (.inr e); simp; omega
        have E2 := Lib.hid e2
        have HOWN := Lib.hid hown
        have HO := Lib.hid ho
        have HCC := Lib.hid hc
        have HXS := Lib.hid hxs
        clear e2 hown ho hc hxs hx hpl htl hin h0
        go_wp2_with fail
        go_roundw
        case rel => exact ⟨j + 1, v, by omega, rfl, by go_num, by have := HO.out; repeat' (first | (with_reducible exact Only.refl _ _) | (with_reducible assumption) | (refine Only.of_none ?_; with_reducible assumption) | (with_reducible refine Only.drewN ?_ _) | (with_reducible refine Only.drew ?_) | (with_reducible refine Only.alloc ?_ _) | (with_reducible refine Only.setCell ?_ ?_ _) | (with_reducible refine Only.then0 ?_ (by with_reducible assumption)) | (with_reducible refine Only.thenN ?_ (by with_reducible assumption) ?_) | (with_reducible refine Only.trans ?_ (by with_reducible assumption)) | (refine .inl ?_; first | rfl | (simp; done) | (simp [Ar.blk]; done)) | (refine .inr ?_; first | omega | (simp; done) | (simp; omega) | exact Only.size (by with_reducible assumption) | (refine Nat.le_trans (Only.size (by with_reducible assumption)) ?_; simp; done))), by rw [E2.out, ← HCC.out, ← HXS.out]; exact HOWN.out⟩
        case measure => simp [intOf]; omega
    · have tj : decide (j < n) = false := by simpa using hlt
      rw [List.take_of_length_le (by rw [← HN.out]; omega)] at hown
      have HOWN := Lib.hid hown
      have HO := Lib.hid ho
      clear hown ho
      go_wp2_with fail
      go_returns
      exact ⟨v, rfl, HOWN.out, HO.out⟩

end
end Go.Proofs.Ytilngakgofjmpaa
