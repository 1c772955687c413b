/- The document's book: Facing, Open. Conditions: a book as its New lays it. -/
import Derived.Test.YtilngakgofjmpaaR6b
namespace Go.Proofs.Ytilngakgofjmpaa
set_option linter.unusedVariables false
set_option linter.unusedSimpArgs false
open Go.RowKit Go.Shelf
open Od (OrdR)

theorem facL_snoc (sg lim : Int) (l : List OrdR) (x : OrdR) : facL sg lim (l ++ [x]) = if lim = 0 ∨ sg * x.p ≤ sg * lim then facL sg lim l ++ [x] else facL sg lim l := by
  unfold facL
  by_cases h0 : lim = 0
  · rw [if_pos h0, if_pos h0, if_pos (.inl h0)]
  · rw [if_neg h0, if_neg h0, List.filter_append]
    by_cases h : sg * x.p ≤ sg * lim
    · rw [if_pos (.inr h)]; simp [h]
    · rw [if_neg (by rintro (e | e); exact h0 e; exact h e)]; simp [h]
theorem facL_len (sg lim : Int) (m : List OrdR) : (facL sg lim m).length ≤ m.length := by
  unfold facL
  split
  · exact Nat.le_refl _
  · exact List.length_filter_le _ _
theorem OrdAt.elt {w : World} {a : Option Addr} {l : List OrdR} (h : OrdAt w a l) {W : World} (o : Only (fun _ => False) w W) {j : Nat} {x : OrdR} (hx : l[j]? = some x) : ∃ g, a = some ⟨g, 0, none⟩ ∧ g < W.heap.size ∧ W.cell? ⟨g, j * 5, none⟩ = some (.int .i64 x.i) ∧ W.cell? ⟨g, j * 5 + 1, none⟩ = some (.int .i64 x.c) ∧ W.cell? ⟨g, j * 5 + 2, none⟩ = some (.int .u8 x.s) ∧ W.cell? ⟨g, j * 5 + 3, none⟩ = some (.int .i64 x.p) ∧ W.cell? ⟨g, j * 5 + 4, none⟩ = some (.int .i64 x.q) := h.only o (fun _ _ => id) j x hx

section
variable {w : World} {r most room : Nat} {vv : Bool → Value} {T : Nat → Prop} {l : Bool → List OrdR}

set_option maxRecDepth 100000 in
set_option maxHeartbeats 4000000 in
theorem r6_fac1 (h : R6M w r vv most room l) (hl : ∀ q, (l q).length ≤ 1000000) (lim : Int) :
    Calls Try.prog 91 #[.pointer (some ⟨r, 0, none⟩), .int .u8 1, .int .i64 lim] w (ListPost w (facL 1 lim (l true))) := by
  obtain ⟨i3, hi3, hz3, hs3, hb3⟩ := info_parts Try.infoOrder
  obtain ⟨a, cap, hvv, hcap, hat⟩ := OrdAt.of_own (h.own true)
  have c2 := h.c3.cell
  rw [hvv] at c2
  have hln := hl true
  obtain ⟨L, hL⟩ : ∃ L, L = l true := ⟨_, rfl⟩
  rw [← hL] at c2 hln hat ⊢
  obtain ⟨n, hn⟩ : ∃ n, n = L.length := ⟨_, rfl⟩
  rw [← hn] at c2 hln
  have HN := Lib.hid hn
  have HA := Lib.hid hat
  have zb := cell_lt c2
  have HI := Lib.hid (⟨hi3, hz3, hs3, hb3⟩ : _ ∧ _ ∧ _ ∧ _)
  clear h hn hvv hat hL hl hcap hi3 hz3 hs3 hb3
  go_enter Try.func91, Try.ntmps91
  go_wp2_with fail
  go_loopw [7, 8] (fun s7 s8 wr => ∃ (j : Nat) (v : Value), j ≤ n ∧ s7 = v ∧ s8 = .int .i64 j ∧ Only (fun _ => False) w wr ∧ wr.ownsRow w.heap.size 54 5 v (facL 1 lim (L.take j)).length (ordC (facL 1 lim (L.take j)))) (fun _ s _ => n - (intOf s).toNat)
  case atStart => exact ⟨0, _, Nat.zero_le _, rfl, rfl, Only.refl _ _, by rw [List.take_zero]; unfold facL; simp only [List.filter_nil, ite_self]; exact World.ownsRow_nil _ _ _ _⟩
  case round =>
    obtain ⟨j, v, hj, e7, rfl, ho, hown⟩ := hrel
    replace e7 := e7.symm
    subst e7
    have c2 := ho.cell c2 id
    have zb := cell_lt c2
    by_cases hlt : j < n
    · have tj : decide (j < n) = true := by simpa using hlt
      obtain ⟨x, hx⟩ : ∃ x, L[j]? = some x := ⟨_, List.getElem?_eq_getElem (by rw [← HN.out]; exact hlt)⟩
      obtain ⟨g, rfl, hg, b0, b1, b2, b3, b4⟩ := HA.out.elt ho hx
      have ij : (0 : Int) ≤ (j : Int) ∧ (j : Int) < (n : Int) := by omega
      have w1 : IntKind.i64.wrap ((j : Int) + 1) = (j : Int) + 1 := by rw [IntKind.wrap_i64]; omega
      have hpl := facL_len 1 lim (L.take j)
      have htl : (L.take j).length ≤ j := List.length_take_le _ _
      have e2 := facL_snoc 1 lim (L.take j) x
      rw [show L.take j ++ [x] = L.take (j + 1) by rw [List.take_add_one, hx]; rfl] at e2
      obtain ⟨c, hc⟩ : ∃ c, c = (facL 1 lim (L.take j)).length := ⟨_, rfl⟩
      obtain ⟨xs, hxs⟩ : ∃ xs, xs = ordC (facL 1 lim (L.take j)) := ⟨_, rfl⟩
      rw [← hc, ← hxs] at hown
      rw [← hc] at hpl
      have hwsz := ho.size
      obtain ⟨oi, oc, os, op, oq⟩ := x
      simp only at b0 b1 b2 b3 b4 e2
      by_cases hin : lim = 0 ∨ 1 * op ≤ 1 * lim
      · rw [if_pos hin] at e2
        obtain ⟨hi3, hz3, hs3, hb3⟩ := HI.out
        obtain ⟨v', W2, hr2, hw2, hg2, hloc⟩ := append_own (P := Try.prog) (ty := 52) Try.underlying52 hi3 hz3 hs3 hb3 rfl (by decide) (ownsRow_apart hown ((Only.refl (fun _ => False) wr).alloc (.cells #[.int .i64 oi, .int .i64 oc, .int .u8 os, .int .i64 op, .int .i64 oq] 54)) (fun _ _ => id)) ⟨wr.heap.size, 0, none⟩ 1 1 [.int .i64 oi, .int .i64 oc, .int .u8 os, .int .i64 op, .int .i64 oq] rfl (cell_five_new wr _ _ _ _ _ _) (by simp [Value.oneCell']) (by unfold maxLen; omega) (by omega) (by rw [World.size_alloc]; omega)
        have o06 : Only (fun _ => False) w W2 := (ho.alloc _).new (Only.of_grown hg2 (fun q e => (hown.lt q e).1))
        have E2 := Lib.hid e2
        have HW2 := Lib.hid hw2
        have O06 := Lib.hid o06
        have HCC := Lib.hid hc
        have HXS := Lib.hid hxs
        clear hi3 hz3 hs3 hb3 hw2 hg2 hloc o06 e2 hown ho hc hxs hx hpl htl
        by_cases h0 : lim = 0
        · subst h0
          clear hin
          go_wp2_with (at_builtin; refine wpList_append_run rfl (.tmp 36) (.tmp 44) 52 rfl _ _ _ rfl rfl hr2 ?_)
          go_roundw
          case rel => exact ⟨j + 1, v', by omega, rfl, by go_num, O06.out, by rw [E2.out, ordC_append, List.length_append, ← HCC.out, ← HXS.out]; exact HW2.out⟩
          case measure => simp [intOf]; omega
        · have t1 : (lim == 0) = false := by simpa using h0
          have t2 : decide (op ≤ lim) = true := by rcases hin with h | h; exact absurd h h0; simp; omega
          clear hin h0
          go_wp2_with (at_builtin; refine wpList_append_run rfl (.tmp 36) (.tmp 44) 52 rfl _ _ _ rfl rfl hr2 ?_)
          go_roundw
          case rel => exact ⟨j + 1, v', by omega, rfl, by go_num, O06.out, by rw [E2.out, ordC_append, List.length_append, ← HCC.out, ← HXS.out]; exact HW2.out⟩
          case measure => simp [intOf]; omega
      · rw [if_neg hin] at e2
        have h0 : ¬ lim = 0 := fun e => hin (.inl e)
        have t1 : (lim == 0) = false := by simpa using h0
        have t2 : decide (op ≤ lim) = false := by have : ¬ 1 * op ≤ 1 * lim := fun e => hin (.inr e); simp; omega
        have E2 := Lib.hid e2
        have HOWN := Lib.hid hown
        have HO := Lib.hid ho
        have HCC := Lib.hid hc
        have HXS := Lib.hid hxs
        clear e2 hown ho hc hxs hx hpl htl hin h0
        go_wp2_with fail
        go_roundw
        case rel => exact ⟨j + 1, v, by omega, rfl, by go_num, by have := HO.out; repeat' (first | (with_reducible exact Only.refl _ _) | (with_reducible assumption) | (refine Only.of_none ?_; with_reducible assumption) | (with_reducible refine Only.drewN ?_ _) | (with_reducible refine Only.drew ?_) | (with_reducible refine Only.alloc ?_ _) | (with_reducible refine Only.setCell ?_ ?_ _) | (with_reducible refine Only.then0 ?_ (by with_reducible assumption)) | (with_reducible refine Only.thenN ?_ (by with_reducible assumption) ?_) | (with_reducible refine Only.trans ?_ (by with_reducible assumption)) | (refine .inl ?_; first | rfl | (simp; done) | (simp [Ar.blk]; done)) | (refine .inr ?_; first | omega | (simp; done) | (simp; omega) | exact Only.size (by with_reducible assumption) | (refine Nat.le_trans (Only.size (by with_reducible assumption)) ?_; simp; done))), by rw [E2.out, ← HCC.out, ← HXS.out]; exact HOWN.out⟩
        case measure => simp [intOf]; omega
    · have tj : decide (j < n) = false := by simpa using hlt
      rw [List.take_of_length_le (by rw [← HN.out]; omega)] at hown
      have HOWN := Lib.hid hown
      have HO := Lib.hid ho
      clear hown ho
      go_wp2_with fail
      go_returns
      exact ⟨v, rfl, HOWN.out, HO.out⟩

set_option maxRecDepth 100000 in
set_option maxHeartbeats 4000000 in
theorem r6_fac2 (h : R6M w r vv most room l) (hl : ∀ q, (l q).length ≤ 1000000) (lim : Int) :
    Calls Try.prog 91 #[.pointer (some ⟨r, 0, none⟩), .int .u8 2, .int .i64 lim] w (ListPost w (facL (-1) lim (l false))) := by
  obtain ⟨i3, hi3, hz3, hs3, hb3⟩ := info_parts Try.infoOrder
  obtain ⟨a, cap, hvv, hcap, hat⟩ := OrdAt.of_own (h.own false)
  have c2 := h.c2.cell
  rw [hvv] at c2
  have hln := hl false
  obtain ⟨L, hL⟩ : ∃ L, L = l false := ⟨_, rfl⟩
  rw [← hL] at c2 hln hat ⊢
  obtain ⟨n, hn⟩ : ∃ n, n = L.length := ⟨_, rfl⟩
  rw [← hn] at c2 hln
  have HN := Lib.hid hn
  have HA := Lib.hid hat
  have zb := cell_lt c2
  have HI := Lib.hid (⟨hi3, hz3, hs3, hb3⟩ : _ ∧ _ ∧ _ ∧ _)
  clear h hn hvv hat hL hl hcap hi3 hz3 hs3 hb3
  go_enter Try.func91, Try.ntmps91
  go_wp2_with fail
  go_loopw [7, 9] (fun s7 s8 wr => ∃ (j : Nat) (v : Value), j ≤ n ∧ s7 = v ∧ s8 = .int .i64 j ∧ Only (fun _ => False) w wr ∧ wr.ownsRow w.heap.size 54 5 v (facL (-1) lim (L.take j)).length (ordC (facL (-1) lim (L.take j)))) (fun _ s _ => n - (intOf s).toNat)
  case atStart => exact ⟨0, _, Nat.zero_le _, rfl, rfl, Only.refl _ _, by rw [List.take_zero]; unfold facL; simp only [List.filter_nil, ite_self]; exact World.ownsRow_nil _ _ _ _⟩
  case round =>
    obtain ⟨j, v, hj, e7, rfl, ho, hown⟩ := hrel
    replace e7 := e7.symm
    subst e7
    have c2 := ho.cell c2 id
    have zb := cell_lt c2
    by_cases hlt : j < n
    · have tj : decide (j < n) = true := by simpa using hlt
      obtain ⟨x, hx⟩ : ∃ x, L[j]? = some x := ⟨_, List.getElem?_eq_getElem (by rw [← HN.out]; exact hlt)⟩
      obtain ⟨g, rfl, hg, b0, b1, b2, b3, b4⟩ := HA.out.elt ho hx
      have ij : (0 : Int) ≤ (j : Int) ∧ (j : Int) < (n : Int) := by omega
      have w1 : IntKind.i64.wrap ((j : Int) + 1) = (j : Int) + 1 := by rw [IntKind.wrap_i64]; omega
      have hpl := facL_len (-1) lim (L.take j)
      have htl : (L.take j).length ≤ j := List.length_take_le _ _
      have e2 := facL_snoc (-1) lim (L.take j) x
      rw [show L.take j ++ [x] = L.take (j + 1) by rw [List.take_add_one, hx]; rfl] at e2
      obtain ⟨c, hc⟩ : ∃ c, c = (facL (-1) lim (L.take j)).length := ⟨_, rfl⟩
      obtain ⟨xs, hxs⟩ : ∃ xs, xs = ordC (facL (-1) lim (L.take j)) := ⟨_, rfl⟩
      rw [← hc, ← hxs] at hown
      rw [← hc] at hpl
      have hwsz := ho.size
      obtain ⟨oi, oc, os, op, oq⟩ := x
      simp only at b0 b1 b2 b3 b4 e2
      by_cases hin : lim = 0 ∨ (-1) * op ≤ (-1) * lim
      · rw [if_pos hin] at e2
        obtain ⟨hi3, hz3, hs3, hb3⟩ := HI.out
        obtain ⟨v', W2, hr2, hw2, hg2, hloc⟩ := append_own (P := Try.prog) (ty := 52) Try.underlying52 hi3 hz3 hs3 hb3 rfl (by decide) (ownsRow_apart hown ((Only.refl (fun _ => False) wr).alloc (.cells #[.int .i64 oi, .int .i64 oc, .int .u8 os, .int .i64 op, .int .i64 oq] 54)) (fun _ _ => id)) ⟨wr.heap.size, 0, none⟩ 1 1 [.int .i64 oi, .int .i64 oc, .int .u8 os, .int .i64 op, .int .i64 oq] rfl (cell_five_new wr _ _ _ _ _ _) (by simp [Value.oneCell']) (by unfold maxLen; omega) (by omega) (by rw [World.size_alloc]; omega)
        have o06 : Only (fun _ => False) w W2 := (ho.alloc _).new (Only.of_grown hg2 (fun q e => (hown.lt q e).1))
        have E2 := Lib.hid e2
        have HW2 := Lib.hid hw2
        have O06 := Lib.hid o06
        have HCC := Lib.hid hc
        have HXS := Lib.hid hxs
        clear hi3 hz3 hs3 hb3 hw2 hg2 hloc o06 e2 hown ho hc hxs hx hpl htl
        by_cases h0 : lim = 0
        · subst h0
          clear hin
          go_wp2_with (at_builtin; refine wpList_append_run rfl (.tmp 71) (.tmp 79) 52 rfl _ _ _ rfl rfl hr2 ?_)
          go_roundw
          case rel => exact ⟨j + 1, v', by omega, rfl, by go_num, O06.out, by rw [E2.out, ordC_append, List.length_append, ← HCC.out, ← HXS.out]; exact HW2.out⟩
          case measure => simp [intOf]; omega
        · have t1 : (lim == 0) = false := by simpa using h0
          have t2 : decide (lim ≤ op) = true := by rcases hin with h | h; exact absurd h h0; simp; omega
          clear hin h0
          go_wp2_with (at_builtin; refine wpList_append_run rfl (.tmp 71) (.tmp 79) 52 rfl _ _ _ rfl rfl hr2 ?_)
          go_roundw
          case rel => exact ⟨j + 1, v', by omega, rfl, by go_num, O06.out, by rw [E2.out, ordC_append, List.length_append, ← HCC.out, ← HXS.out]; exact HW2.out⟩
          case measure => simp [intOf]; omega
      · rw [if_neg hin] at e2
        have h0 : ¬ lim = 0 := fun e => hin (.inl e)
        have t1 : (lim == 0) = false := by simpa using h0
        have t2 : decide (lim ≤ op) = false := by have : ¬ (-1) * op ≤ (-1) * lim := fun e => hin (.inr e); simp; omega
        have E2 := Lib.hid e2
        have HOWN := Lib.hid hown
        have HO := Lib.hid ho
        have HCC := Lib.hid hc
        have HXS := Lib.hid hxs
        clear e2 hown ho hc hxs hx hpl htl hin h0
        go_wp2_with fail
        go_roundw
        case rel => exact ⟨j + 1, v, by omega, rfl, by go_num, by have := HO.out; repeat' (first | (with_reducible exact Only.refl _ _) | (with_reducible assumption) | (refine Only.of_none ?_; with_reducible assumption) | (with_reducible refine Only.drewN ?_ _) | (with_reducible refine Only.drew ?_) | (with_reducible refine Only.alloc ?_ _) | (with_reducible refine Only.setCell ?_ ?_ _) | (with_reducible refine Only.then0 ?_ (by with_reducible assumption)) | (with_reducible refine Only.thenN ?_ (by with_reducible assumption) ?_) | (with_reducible refine Only.trans ?_ (by with_reducible assumption)) | (refine .inl ?_; first | rfl | (simp; done) | (simp [Ar.blk]; done)) | (refine .inr ?_; first | omega | (simp; done) | (simp; omega) | exact Only.size (by with_reducible assumption) | (refine Nat.le_trans (Only.size (by with_reducible assumption)) ?_; simp; done))), by rw [E2.out, ← HCC.out, ← HXS.out]; exact HOWN.out⟩
        case measure => simp [intOf]; omega
    · have tj : decide (j < n) = false := by simpa using hlt
      rw [List.take_of_length_le (by rw [← HN.out]; omega)] at hown
      have HOWN := Lib.hid hown
      have HO := Lib.hid ho
      clear hown ho
      go_wp2_with fail
      go_returns
      exact ⟨v, rfl, HOWN.out, HO.out⟩

theorem cntC_take {c : Int} {L : List OrdR} {j : Nat} {x : OrdR} (hx : L[j]? = some x) : cntC c (L.take (j + 1)) = (if x.c = c then cntC c (L.take j) + 1 else cntC c (L.take j)) ∧ lotC c (L.take (j + 1)) = (if x.c = c then lotC c (L.take j) + x.q else lotC c (L.take j)) := by
  rw [show L.take (j + 1) = L.take j ++ [x] by rw [List.take_add_one, hx]; rfl]
  exact ⟨cntC_snoc _ _ _, lotC_snoc _ _ _⟩
set_option maxRecDepth 100000 in
set_option maxHeartbeats 4000000 in
theorem r6_open (h : R6M w r vv most room l) (hg : Good most room l) (c : Int) :
    Calls Try.prog 96 #[.pointer (some ⟨r, 0, none⟩), .int .i64 c] w fun e w' => e = .returned (openV l c) ∧ w = w' := by
  obtain ⟨a0, k0, a1, k1, e0, e1, o0, o1, h0, h1⟩ := h.parts
  have c2 := h.c2.cell
  have c3 := h.c3.cell
  rw [e0] at c2
  rw [e1] at c3
  have zb := cell_lt c2
  have hle : ∀ q, (l q).length ≤ 256 := fun q => by
    have h1 := hg.len
    have h2 := hg.small.1
    cases q <;> omega
  have hbd : ∀ q j, 0 ≤ cntC c ((l q).take j) ∧ cntC c ((l q).take j) ≤ 256 ∧ 0 ≤ lotC c ((l q).take j) ∧ lotC c ((l q).take j) ≤ 256000000000 := fun q j => by
    have h1 := ofC_bd (c := c) (l := (l q).take j) (fun o ho => (hg.ok q o (List.mem_of_mem_take ho)).2.2.2.2.2.2)
    have h2 := List.length_take_le j (l q)
    have h2' := List.length_take_le' j (l q)
    have h3 := hle q
    omega
  have hok : ∀ q, ∀ o ∈ l q, 1 ≤ o.q ∧ o.q ≤ 1000000000 := fun q o ho => (hg.ok q o ho).2.2.2.2.2.2
  have hov : openV l c = .tuple #[.int .i64 (cntC c (l false) + cntC c (l true)), .int .i64 (lotC c (l false) + lotC c (l true))] := rfl
  rw [hov]
  have B0 := hbd false
  have B1 := hbd true
  have K0 := hok false
  have K1 := hok true
  have H0 := hle false
  have H1 := hle true
  generalize l false = L0 at *
  generalize l true = L1 at *
  obtain ⟨n0, hn0⟩ : ∃ n, n = L0.length := ⟨_, rfl⟩
  obtain ⟨n1, hn1⟩ : ∃ n, n = L1.length := ⟨_, rfl⟩
  rw [← hn0] at c2 H0
  rw [← hn1] at c3 H1
  have HN0 := Lib.hid hn0
  have HN1 := Lib.hid hn1
  have HO0 := Lib.hid o0
  have HO1 := Lib.hid o1
  have HB0 := Lib.hid B0
  have HB1 := Lib.hid B1
  have HK0 := Lib.hid K0
  have HK1 := Lib.hid K1
  clear h hg e0 e1 o0 o1 h0 h1 hle hbd hok hov B0 B1 K0 K1 hn0 hn1
  go_enter Try.func96, Try.ntmps96
  go_wp2_with fail
  go_loop [6, 7, 8] (fun s6 s7 s8 => ∃ j : Nat, j ≤ n0 ∧ s6 = .int .i64 (cntC c (L0.take j)) ∧ s7 = .int .i64 (lotC c (L0.take j)) ∧ s8 = .int .i64 j) (fun _ _ s => n0 - (intOf s).toNat)
  case atStart => exact ⟨0, Nat.zero_le _, rfl, rfl, rfl⟩
  case round =>
    obtain ⟨j, hj, rfl, rfl, rfl⟩ := hrel
    by_cases hlt : j < n0
    · have tj : decide (j < n0) = true := by simpa using hlt
      obtain ⟨x, hx⟩ : ∃ x, L0[j]? = some x := ⟨_, List.getElem?_eq_getElem (by rw [← HN0.out]; exact hlt)⟩
      obtain ⟨g, rfl, hg, b0, b1, b2, b3, b4⟩ := HO0.out j x hx
      have ij : (0 : Int) ≤ (j : Int) ∧ (j : Int) < (n0 : Int) := by omega
      have w1 : IntKind.i64.wrap ((j : Int) + 1) = (j : Int) + 1 := by rw [IntKind.wrap_i64]; omega
      have hbd := HB0.out j
      have hq := HK0.out x (List.mem_of_getElem? hx)
      have e2 := cntC_take (c := c) hx
      obtain ⟨ct, hct⟩ : ∃ ct, ct = cntC c (L0.take j) := ⟨_, rfl⟩
      obtain ⟨lt, hlo⟩ : ∃ lt, lt = lotC c (L0.take j) := ⟨_, rfl⟩
      rw [← hct, ← hlo] at hbd e2
      rw [← hct, ← hlo]
      obtain ⟨oi, oc, os, op, oq⟩ := x
      simp only at b0 b1 b2 b3 b4 e2 hq
      have w2 : IntKind.i64.wrap (ct + 1) = ct + 1 := by rw [IntKind.wrap_i64]; omega
      have w3 : IntKind.i64.wrap (lt + oq) = lt + oq := by rw [IntKind.wrap_i64]; omega
      by_cases hc : oc = c
      · have t1 : (oc == c) = true := by simpa using hc
        rw [if_pos hc, if_pos hc] at e2
        have E2 := Lib.hid e2
        clear e2 hct hlo hx hc
        go_wp2_with fail
        go_round
        case rel => exact ⟨j + 1, by omega, by rw [E2.out.1], by rw [E2.out.2], by go_num⟩
        case measure => simp [intOf]; omega
      · have t1 : (oc == c) = false := by simpa using hc
        rw [if_neg hc, if_neg hc] at e2
        have E2 := Lib.hid e2
        clear e2 hct hlo hx hc
        go_wp2_with fail
        go_round
        case rel => exact ⟨j + 1, by omega, by rw [E2.out.1], by rw [E2.out.2], by go_num⟩
        case measure => simp [intOf]; omega
    · have tj : decide (j < n0) = false := by simpa using hlt
      rw [List.take_of_length_le (by rw [← HN0.out]; omega)]
      have hz0 := HB0.out L0.length
      rw [List.take_length] at hz0
      obtain ⟨n, hn⟩ : ∃ n, n = cntC c L0 := ⟨_, rfl⟩
      obtain ⟨m, hm⟩ : ∃ n, n = lotC c L0 := ⟨_, rfl⟩
      rw [← hn, ← hm] at hz0 ⊢
      have HNM := Lib.hid (⟨hn, hm⟩ : _ ∧ _)
      clear hn hm
      go_wp2_with fail
      go_loop [6, 7, 9] (fun s6 s7 s8 => ∃ j : Nat, j ≤ n1 ∧ s6 = .int .i64 (n + cntC c (L1.take j)) ∧ s7 = .int .i64 (m + lotC c (L1.take j)) ∧ s8 = .int .i64 j) (fun _ _ s => n1 - (intOf s).toNat)
      case atStart => exact ⟨0, Nat.zero_le _, by rw [List.take_zero, cntC_nil, Int.add_zero], by rw [List.take_zero, lotC_nil, Int.add_zero], rfl⟩
      case round =>
        obtain ⟨j1, hj, rfl, rfl, rfl⟩ := hrel
        by_cases hlt : j1 < n1
        · have tj : decide (j1 < n1) = true := by simpa using hlt
          obtain ⟨x, hx⟩ : ∃ x, L1[j1]? = some x := ⟨_, List.getElem?_eq_getElem (by rw [← HN1.out]; exact hlt)⟩
          obtain ⟨g, rfl, hg, b0, b1, b2, b3, b4⟩ := HO1.out j1 x hx
          have ij : (0 : Int) ≤ (j1 : Int) ∧ (j1 : Int) < (n1 : Int) := by omega
          have w1 : IntKind.i64.wrap ((j1 : Int) + 1) = (j1 : Int) + 1 := by rw [IntKind.wrap_i64]; omega
          have hbd := HB1.out j1
          have hq := HK1.out x (List.mem_of_getElem? hx)
          have e2 := cntC_take (c := c) hx
          obtain ⟨ct, hct⟩ : ∃ ct, ct = cntC c (L1.take j1) := ⟨_, rfl⟩
          obtain ⟨lt, hlo⟩ : ∃ lt, lt = lotC c (L1.take j1) := ⟨_, rfl⟩
          rw [← hct, ← hlo] at hbd e2
          rw [← hct, ← hlo]
          obtain ⟨oi, oc, os, op, oq⟩ := x
          simp only at b0 b1 b2 b3 b4 e2 hq
          have w2 : IntKind.i64.wrap (n + ct + 1) = n + ct + 1 := by rw [IntKind.wrap_i64]; omega
          have w3 : IntKind.i64.wrap (m + lt + oq) = m + lt + oq := by rw [IntKind.wrap_i64]; omega
          by_cases hc : oc = c
          · have t1 : (oc == c) = true := by simpa using hc
            rw [if_pos hc, if_pos hc] at e2
            have E2 := Lib.hid e2
            clear e2 hct hlo hx hc
            go_wp2_with fail
            go_round
            case rel => exact ⟨j1 + 1, by omega, by rw [E2.out.1]; go_num, by rw [E2.out.2]; go_num, by go_num⟩
            case measure => simp [intOf]; omega
          · have t1 : (oc == c) = false := by simpa using hc
            rw [if_neg hc, if_neg hc] at e2
            have E2 := Lib.hid e2
            clear e2 hct hlo hx hc
            go_wp2_with fail
            go_round
            case rel => exact ⟨j1 + 1, by omega, by rw [E2.out.1], by rw [E2.out.2], by go_num⟩
            case measure => simp [intOf]; omega
        · have tj : decide (j1 < n1) = false := by simpa using hlt
          rw [List.take_of_length_le (by rw [← HN1.out]; omega)]
          go_wp2_with fail
          go_returns
          rw [← HNM.out.1, ← HNM.out.2]
          exact ⟨rfl, rfl⟩
end
end Go.Proofs.Ytilngakgofjmpaa
