/- The document's side: Upto. Conditions: a side as its New lays it, the prices from better to worse. -/
import Derived.Test.YtkglplngnjgnhaaRl3
namespace Go.Proofs.Ytkglplngnjgnhaa
set_option linter.unusedVariables false
set_option linter.unusedSimpArgs false
open Go.RowKit

section
variable {w : World} {rb most : Nat} {sd sg : Int} {hv : Value} {L : List Lvl}

theorem pickU_len (sg lim : Int) (l : List Lvl) : (pickU sg lim l).length ≤ l.length := List.length_filter_le _ _

theorem own_only {w W : World} {base ty sz n : Nat} {v : Value} {xs : List Value} (h : w.ownsRow base ty sz v n xs) (o : Only (fun _ => False) w W) : W.ownsRow base ty sz v n xs := by
  refine ⟨h.1, ?_⟩
  rcases h.2 with hn | ⟨g, cap, cur, rfl, hb, hgg, rest⟩
  · exact .inl hn
  · exact .inr ⟨g, cap, cur, rfl, hb, (o.block g (Array.getElem?_eq_some_iff.1 hgg).1 id).trans hgg, rest⟩

set_option maxHeartbeats 4000000 in
set_option maxRecDepth 100000 in
theorem r_upto (h : R5At w rb sd most sg hv L) (ok : LvOk most sg L) (lim : Int) :
    Calls Try.prog 51 #[.pointer (some ⟨rb, 0, none⟩), .int .i64 lim] w fun e w' => ∃ v, e = .returned v ∧ w'.ownsRow w.heap.size 161 2 v (uptoL sg lim L).length (lvV (uptoL sg lim L)) ∧ Only (fun _ => False) w w' := by
  obtain ⟨i3, hi3, hz3, hs3, hb3⟩ := info_parts Try.infoPrice
  rw [← pickU_eq ok.hsg ok.srt]
  have hln := ok.len
  have hsm := ok.small
  obtain ⟨C, hC⟩ : ∃ C, C = pickU sg lim L := ⟨_, rfl⟩
  rw [← hC]
  have HC := Lib.hid hC
  clear hC
  obtain ⟨a, cap, hvv, hcap⟩ := own_slice h.own
  have c2 := h.c2.cell
  rw [hvv] at c2
  have c0 := h.c0.cell
  have hsd := h.hsd
  obtain ⟨n, hn⟩ : ∃ n, n = L.length := ⟨_, rfl⟩
  rw [← hn] at c2 hln hcap hvv
  have HH := Lib.hid h
  have HN := Lib.hid hn
  have HV := Lib.hid hvv
  have HSD := Lib.hid hsd
  have zb := cell_lt c0
  clear h ok hn hvv hsd
  go_enter Try.func51, Try.ntmps51
  go_wp2_with fail
  go_loopw [5, 6] (fun s5 s6 wr => ∃ (j : Nat) (v : Value), j ≤ n ∧ s5 = v ∧ s6 = .int .i64 j ∧ Only (fun _ => False) w wr ∧ wr.ownsRow w.heap.size 161 2 v (pickU sg lim (L.take j)).length (lvV (pickU sg lim (L.take j)))) (fun _ s _ => n - (intOf s).toNat)
  case atStart => exact ⟨0, _, by omega, rfl, rfl, Only.refl _ _, World.ownsRow_nil _ _ _ _⟩
  case round =>
    obtain ⟨j, v, hj, e5, rfl, ho, hown⟩ := hrel
    replace e5 := e5.symm
    subst e5
    have c0 := ho.cell c0 id
    have c2 := ho.cell c2 id
    have zb := cell_lt c0
    by_cases hlt : j < n
    · have tj : decide (j < n) = true := by simpa using hlt
      obtain ⟨x, hx⟩ : ∃ x, L[j]? = some x := ⟨_, List.getElem?_eq_getElem (by rw [← HN.out]; exact hlt)⟩
      obtain ⟨g, cap', e, _, hg, v1, v2⟩ := HH.out.at_ hx
      rw [HV.out, ← HN.out] at e
      obtain ⟨rfl, rfl⟩ : a = some ⟨g, 0, none⟩ ∧ cap = cap' := by injection e with e1 e2 e3; exact ⟨e1, e3⟩
      have v1 := ho.cell v1.cell id
      have v2 := ho.cell v2.cell id
      have zg := cell_lt v1
      have ij : (0 : Int) ≤ (j : Int) ∧ (j : Int) < (n : Int) := by omega
      have w1 : IntKind.i64.wrap ((j : Int) + 1) = (j : Int) + 1 := by rw [IntKind.wrap_i64]; omega
      have hpl := pickU_len sg lim (L.take j)
      have htl : (L.take j).length ≤ j := List.length_take_le _ _
      have e2 := pickU_snoc sg lim (L.take j) x
      have e3 : L.take j ++ [x] = L.take (j + 1) := by rw [List.take_add_one, hx]; rfl
      rw [e3] at e2
      obtain ⟨c, hc⟩ : ∃ c, c = (pickU sg lim (L.take j)).length := ⟨_, rfl⟩
      obtain ⟨xs, hxs⟩ : ∃ xs, xs = lvV (pickU sg lim (L.take j)) := ⟨_, rfl⟩
      rw [← hc, ← hxs] at hown
      rw [← hc] at hpl
      have HCC := Lib.hid hc
      have HXS := Lib.hid hxs
      have HOWN := Lib.hid hown
      have HO := Lib.hid ho
      have HB := fun W => Lib.hid (r_bet W sd sg lim x.1 HSD.out)
      obtain ⟨xp, xr⟩ := x
      simp only at v1 v2 e2 HB
      have HOP := Lib.hid (show ∀ u ∈ [Value.int .i64 xp, Value.int .i64 (xr : Nat)], u.oneCell' = true from fun u hu => by
        rcases List.mem_cons.1 hu with rfl | hu
        · rfl
        · rcases List.mem_cons.1 hu with rfl | hu
          · rfl
          · cases hu)
      clear ho
      clear hc hxs hown e3
      by_cases h0 : lim = 0
      · rw [if_pos (.inl h0)] at e2
        have E2 := Lib.hid e2
        subst h0
        obtain ⟨q, hwor⟩ : ∃ q, q = decide (sg * 0 < sg * xp) := ⟨_, rfl⟩
        have hb := hwor
        have HB2 := fun W => Lib.hid (show Calls Try.prog 98 #[.int .u8 sd, .int .i64 0, .int .i64 xp] W (fun e w' => e = .returned (.bool q) ∧ W = w') from by have := (HB W).out; rwa [← hwor] at this)
        clear e2
        clear hb HB e hx hwor
        go_wp2_with fail
        go_quiet ((go_at_call 98; exact Calls.quiet_of_same ((HB2 _).out.mono fun e w' ⟨h1, h2⟩ => ⟨h1, h2.symm⟩)))
        generalize hwq : wr.drewN _ = wq
        have oq : Only (fun _ => False) wr wq := by rw [← hwq]; repeat' (first | (with_reducible exact Only.refl _ _) | (with_reducible assumption) | (refine Only.of_none ?_; with_reducible assumption) | (with_reducible refine Only.drewN ?_ _) | (with_reducible refine Only.drew ?_) | (with_reducible refine Only.alloc ?_ _) | (with_reducible refine Only.setCell ?_ ?_ _) | (with_reducible refine Only.then0 ?_ (by with_reducible assumption)) | (with_reducible refine Only.thenN ?_ (by with_reducible assumption) ?_) | (with_reducible refine Only.trans ?_ (by with_reducible assumption)) | (refine .inl ?_; first | rfl | (simp; done) | (simp [Ar.blk]; done)) | (refine .inr ?_; first | omega | (simp; done) | (simp; omega) | exact Only.size (by with_reducible assumption) | (refine Nat.le_trans (Only.size (by with_reducible assumption)) ?_; simp; done)))
        have hown := own_only HOWN.out oq
        have ho := HO.out.trans oq
        have c2 := oq.cell c2 id
        have v1 := oq.cell v1 id
        have v2 := oq.cell v2 id
        have zb := cell_lt c2
        have zg := cell_lt v1
        have HOWN := Lib.hid hown
        have HO := Lib.hid ho
        have HSZ := Lib.hid (show w.heap.size ≤ (wq.alloc (.cells #[.int .i64 xp, .int .i64 (xr : Nat)] 161)).heap.size from (ho.alloc _).size)
        clear oq hwq hown ho
        go_wp2_with (at_builtin; with_reducible refine wpList_append_own_at _ rfl (.tmp 37) (.tmp 45) 113 rfl w.heap.size 161 i3 (.agg #[.int .i64 0, .int .i64 0]) 2 16 Try.underlying113 hi3 hz3 hs3 hb3 rfl (by decide) v c xs rfl (HOWN.out.alloc _) ⟨_, 0, none⟩ 1 1 [.int .i64 xp, .int .i64 (xr : Nat)] rfl rfl (cell_pair_new _ _ _ _) HOP.out (by unfold maxLen; omega) (by omega) HSZ.out ?_; intro v2 w6 hown2 hgrow2 hnil2 hat2; clear hnil2 hat2; have o06 : Only (fun _ => False) w w6 := (HO.out.alloc _).new (Only.of_grown hgrow2 (fun q e => (HOWN.out.lt q e).1)); have HOWN2 := Lib.hid hown2; have O06 := Lib.hid o06; clear hown2 hgrow2 o06)
        go_roundw
        case rel => exact ⟨j + 1, v2, by omega, rfl, by go_num, O06.out, by rw [E2.out, lvV_append, List.length_append, ← HCC.out, ← HXS.out]; exact HOWN2.out⟩
        case measure => simp [intOf]; omega
      · by_cases hwor : sg * lim < sg * xp
        · rw [if_neg (by rintro (e | e); exact h0 e; exact e hwor)] at e2
          have E2 := Lib.hid e2
          have t1 : (lim == 0) = false := by simpa using h0
          have HB2 := fun W => Lib.hid (show Calls Try.prog 98 #[.int .u8 sd, .int .i64 lim, .int .i64 xp] W (fun e w' => e = .returned (.bool true) ∧ W = w') from by have := (HB W).out; rwa [decide_eq_true hwor] at this)
          clear e2 e hx HB hwor h0
          go_wp2_with fail
          go_quiet ((go_at_call 98; exact Calls.quiet_of_same ((HB2 _).out.mono fun e w' ⟨h1, h2⟩ => ⟨h1, h2.symm⟩)))
          go_wp2_with fail
          go_roundw
          case rel => exact ⟨j + 1, v, by omega, rfl, by go_num, by have := HO.out; repeat' (first | (with_reducible exact Only.refl _ _) | (with_reducible assumption) | (refine Only.of_none ?_; with_reducible assumption) | (with_reducible refine Only.drewN ?_ _) | (with_reducible refine Only.drew ?_) | (with_reducible refine Only.alloc ?_ _) | (with_reducible refine Only.setCell ?_ ?_ _) | (with_reducible refine Only.then0 ?_ (by with_reducible assumption)) | (with_reducible refine Only.thenN ?_ (by with_reducible assumption) ?_) | (with_reducible refine Only.trans ?_ (by with_reducible assumption)) | (refine .inl ?_; first | rfl | (simp; done) | (simp [Ar.blk]; done)) | (refine .inr ?_; first | omega | (simp; done) | (simp; omega) | exact Only.size (by with_reducible assumption) | (refine Nat.le_trans (Only.size (by with_reducible assumption)) ?_; simp; done))), by rw [E2.out, ← HCC.out, ← HXS.out]; exact own_only HOWN.out (by repeat' (first | (with_reducible exact Only.refl _ _) | (with_reducible assumption) | (refine Only.of_none ?_; with_reducible assumption) | (with_reducible refine Only.drewN ?_ _) | (with_reducible refine Only.drew ?_) | (with_reducible refine Only.alloc ?_ _) | (with_reducible refine Only.setCell ?_ ?_ _) | (with_reducible refine Only.then0 ?_ (by with_reducible assumption)) | (with_reducible refine Only.thenN ?_ (by with_reducible assumption) ?_) | (with_reducible refine Only.trans ?_ (by with_reducible assumption)) | (refine .inl ?_; first | rfl | (simp; done) | (simp [Ar.blk]; done)) | (refine .inr ?_; first | omega | (simp; done) | (simp; omega) | exact Only.size (by with_reducible assumption) | (refine Nat.le_trans (Only.size (by with_reducible assumption)) ?_; simp; done))))⟩
          case measure => simp [intOf]; omega
        · rw [if_pos (.inr hwor)] at e2
          have E2 := Lib.hid e2
          have t1 : (lim == 0) = false := by simpa using h0
          have HB2 := fun W => Lib.hid (show Calls Try.prog 98 #[.int .u8 sd, .int .i64 lim, .int .i64 xp] W (fun e w' => e = .returned (.bool false) ∧ W = w') from by have := (HB W).out; rwa [decide_eq_false hwor] at this)
          have hb := hwor
          clear e2 h0
          clear hb HB e hx hwor
          go_wp2_with fail
          go_quiet ((go_at_call 98; exact Calls.quiet_of_same ((HB2 _).out.mono fun e w' ⟨h1, h2⟩ => ⟨h1, h2.symm⟩)))
          generalize hwq : wr.drewN _ = wq
          have oq : Only (fun _ => False) wr wq := by rw [← hwq]; repeat' (first | (with_reducible exact Only.refl _ _) | (with_reducible assumption) | (refine Only.of_none ?_; with_reducible assumption) | (with_reducible refine Only.drewN ?_ _) | (with_reducible refine Only.drew ?_) | (with_reducible refine Only.alloc ?_ _) | (with_reducible refine Only.setCell ?_ ?_ _) | (with_reducible refine Only.then0 ?_ (by with_reducible assumption)) | (with_reducible refine Only.thenN ?_ (by with_reducible assumption) ?_) | (with_reducible refine Only.trans ?_ (by with_reducible assumption)) | (refine .inl ?_; first | rfl | (simp; done) | (simp [Ar.blk]; done)) | (refine .inr ?_; first | omega | (simp; done) | (simp; omega) | exact Only.size (by with_reducible assumption) | (refine Nat.le_trans (Only.size (by with_reducible assumption)) ?_; simp; done)))
          have hown := own_only HOWN.out oq
          have ho := HO.out.trans oq
          have c2 := oq.cell c2 id
          have v1 := oq.cell v1 id
          have v2 := oq.cell v2 id
          have zb := cell_lt c2
          have zg := cell_lt v1
          have HOWN := Lib.hid hown
          have HO := Lib.hid ho
          have HSZ := Lib.hid (show w.heap.size ≤ (wq.alloc (.cells #[.int .i64 xp, .int .i64 (xr : Nat)] 161)).heap.size from (ho.alloc _).size)
          clear oq hwq hown ho
          go_wp2_with (at_builtin; with_reducible refine wpList_append_own_at _ rfl (.tmp 37) (.tmp 45) 113 rfl w.heap.size 161 i3 (.agg #[.int .i64 0, .int .i64 0]) 2 16 Try.underlying113 hi3 hz3 hs3 hb3 rfl (by decide) v c xs rfl (HOWN.out.alloc _) ⟨_, 0, none⟩ 1 1 [.int .i64 xp, .int .i64 (xr : Nat)] rfl rfl (cell_pair_new _ _ _ _) HOP.out (by unfold maxLen; omega) (by omega) HSZ.out ?_; intro v2 w6 hown2 hgrow2 hnil2 hat2; clear hnil2 hat2; have o06 : Only (fun _ => False) w w6 := (HO.out.alloc _).new (Only.of_grown hgrow2 (fun q e => (HOWN.out.lt q e).1)); have HOWN2 := Lib.hid hown2; have O06 := Lib.hid o06; clear hown2 hgrow2 o06)
          go_roundw
          case rel => exact ⟨j + 1, v2, by omega, rfl, by go_num, O06.out, by rw [E2.out, lvV_append, List.length_append, ← HCC.out, ← HXS.out]; exact HOWN2.out⟩
          case measure => simp [intOf]; omega
    · have tj : decide (j < n) = false := by simpa using hlt
      have e2 : pickU sg lim (L.take j) = C := by rw [List.take_of_length_le (by rw [← HN.out]; omega), HC.out]
      rw [e2] at hown
      have HOWN := Lib.hid hown
      have HO := Lib.hid ho
      clear e2 hown ho
      go_wp2_with fail
      go_returns
      exact ⟨v, rfl, HOWN.out, HO.out⟩
end
end Go.Proofs.Ytkglplngnjgnhaa
