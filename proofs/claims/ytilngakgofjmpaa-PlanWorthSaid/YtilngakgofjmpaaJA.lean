/- Plan: what is lent: a copy of the hits with two marks behind it (LentHits). Conditions: at most 2^20 hits. -/
import Derived.Test.YtilngakgofjmpaaPl6
import Derived.Test.YtilngakgofjmpaaJ1
import Derived.Test.YtilngakgofjmpaaJ6
import Derived.Laws.Tables
import Derived.Laws.MakeOwn
import Derived.Laws.AppendOwnNone
namespace Go.Proofs.Ytilngakgofjmpaa
set_option linter.unusedVariables false
set_option linter.unusedSimpArgs false
open Go.RowKit

def marksH : List Value := [.int .i64 (-771), .int .i64 0, .int .i64 0, .bool false, .int .i64 (-772), .int .i64 0, .int .i64 0, .bool false]
theorem Try.infoHit7 : (Try.prog.info? 117).map (fun i => (i.zero, i.size, i.bytes)) = some (some (.agg #[.int .i64 0, .int .i64 0, .int .i64 0, .bool false]), 4, 32) := by kernel_rfl
theorem hitC_one (l : List HitR) : ∀ u ∈ hitC l, u.oneCell' = true := by
  induction l with
  | nil => intro u hu; cases hu
  | cons y t ih =>
    intro u hu
    change u ∈ [Value.int .i64 y.i, .int .i64 y.p, .int .i64 y.q, .bool y.o] ++ hitC t at hu
    rcases List.mem_append.1 hu with h | h
    · simp only [List.mem_cons, List.not_mem_nil, or_false] at h
      rcases h with rfl | rfl | rfl | rfl <;> rfl
    · exact ih u h
/-- Where hits come in: their cells, one behind the other. -/
def HitIn (w : World) (a : Option Addr) (n cap : Nat) (xs : List HitR) : Prop := (a = none ∧ n = 0 ∧ cap = 0) ∨ ∃ ad, a = some ad ∧ ∀ j u, (hitC xs)[j]? = some u → w.cell? (ad.add j) = some u

theorem Only.setRowH {S : Nat → Prop} {a w : World} (h : Only S a w) {g : Nat} (hg : S g ∨ a.heap.size ≤ g) (cs : Array Value) : Only S a (w.setRow g cs) :=
  ⟨h.os, h.tape, h.output, by rw [size_setRow]; exact h.size, fun i hi hs => (setRow_other w g i cs (by
    rintro rfl
    rcases hg with h1 | h1
    · exact hs h1
    · omega)).trans (h.block i hi hs)⟩

/-- What is lent. -/
def LentHPost (w : World) (n : Nat) (xs : List HitR) (e : Ending) (w' : World) : Prop :=
  e = .returned (.slice (some ⟨w.heap.size, 0, none⟩) n (n + 2)) ∧ w'.heap[w.heap.size]? = some (.cells (hitC xs ++ marksH).toArray 117 (0, 0)) ∧ Only (fun _ => False) w w'

set_option maxHeartbeats 4000000 in
set_option maxRecDepth 100000 in
theorem s_lentH (w : World) (a : Option Addr) (n cap : Nat) (xs : List HitR) (hn : xs.length = n) (hx : HitIn w a n cap xs) (hN : n ≤ 1048576) :
    Calls Try.prog 48 #[.slice a n cap] w (LentHPost w n xs) := by
  obtain ⟨i3, hi3, hz3, hs3, hb3⟩ := info_parts Try.infoHit7
  have wk : IntKind.i64.wrap ((n : Int) + 2) = (n : Int) + 2 := by rw [IntKind.wrap_i64]; omega
  have hm : ∀ W : World, (Instr.makeSlice 102 (.int .i64 0) (.int .i64 ((n : Int) + 2))).run Try.prog W = .ok (.slice (some ⟨W.heap.size, 0, none⟩) 0 (n + 2)) (W.alloc (.cells (madeCells #[.int .i64 0, .int .i64 0, .int .i64 0, .bool false] ((n + 2) * 4)) 117)) := fun W => by
    have hr := run_make (P := Try.prog) W 102 117 i3 _ Try.underlying102 hi3 hz3 .i64 .i64 0 ((n : Int) + 2) (by omega) (by omega) (by rw [hb3]; omega) (by omega)
    have e1 : ((n : Int) + 2).toNat = n + 2 := by omega
    rw [e1, hs3] at hr
    exact hr
  have hsz : ((n + 2) * 4) = (madeCells #[Value.int .i64 0, .int .i64 0, .int .i64 0, .bool false] ((n + 2) * 4)).size := by simp [madeCells]
  generalize madeCells #[Value.int .i64 0, .int .i64 0, .int .i64 0, .bool false] ((n + 2) * 4) = zs at hm hsz
  have HX := Lib.hid hx
  have HN := Lib.hid hn
  clear hx hn
  go_enter Try.func48, Try.ntmps48
  go_upto_region 1 with fail
  go_cut [3] from 5 to 10 (fun s3 wc => s3 = .slice (some ⟨w.heap.size, 0, none⟩) n (n + 2) ∧ (∃ tl : List Value, tl.length = 8 ∧ wc.heap[w.heap.size]? = some (.cells (hitC xs ++ tl).toArray 117 (0, 0))) ∧ Only (fun _ => False) w wc)
  case first =>
    rcases HX.out with ⟨rfl, h2, h3⟩ | ⟨ad, rfl, hc⟩
    · have h4 : xs = [] := List.eq_nil_of_length_eq_zero (by rw [HN.out]; exact h2)
      have H2 := Lib.hid h2
      have H3 := Lib.hid h3
      clear h2 h3
      have hown := World.ownsRow_made (base := w.heap.size) (e := 117) (size := 4) w zs (n + 2) (Nat.le_refl _) (by unfold maxLen; omega) hsz.symm
      go_wp2_with ((at_builtin; refine wpList_append_own_none rfl (.tmp 8) (.tmp 9) 102 rfl w.heap.size 117 i3 4 Try.underlying102 hi3 _ _ _ rfl hown (by show Value.slice none n cap = _; rw [H2.out, H3.out]) ?_))
      go_meet
      refine ⟨by rw [H2.out], ⟨zs.toList, by rw [Array.length_toList, ← hsz, H2.out], ?_⟩, by repeat' (first | (with_reducible exact Only.refl _ _) | (with_reducible assumption) | (refine Only.of_none ?_; with_reducible assumption) | (with_reducible refine Only.drewN ?_ _) | (with_reducible refine Only.drew ?_) | (with_reducible refine Only.alloc ?_ _) | (with_reducible refine Only.setCell ?_ ?_ _) | (with_reducible refine Only.then0 ?_ (by with_reducible assumption)) | (with_reducible refine Only.thenN ?_ (by with_reducible assumption) ?_) | (with_reducible refine Only.trans ?_ (by with_reducible assumption)) | (refine .inl ?_; first | rfl | (simp; done) | (simp [Ar.blk]; done)) | (refine .inr ?_; first | omega | (simp; done) | (simp; omega) | exact Only.size (by with_reducible assumption) | (refine Nat.le_trans (Only.size (by with_reducible assumption)) ?_; simp; done)))⟩
      subst h4
      have := heap_alloc_new w (.cells zs 117)
      simpa [hitC] using this
    · have hrun := run_append_room (P := Try.prog) (w := w.alloc (.cells zs 117)) 102 102 117 i3 Try.underlying102 hi3 w.heap.size 0 (n + 2) zs (heap_alloc_new w _) ad n cap (hitC xs) (by rw [hitC_length, HN.out, hs3]) (fun j u hu => by
        have := hc j u hu
        exact (World.cell?_of_block (w := w) (Below.heap_alloc w _ _ (World.block_lt_of_cell? w _ this))).trans this) (hitC_one xs) (by omega) (by rw [hitC_length, HN.out, ← hsz]; omega)
      rw [Nat.zero_add, Nat.zero_mul, List.take_zero, List.nil_append, Nat.zero_add] at hrun
      have HR := Lib.hid hrun
      clear hrun
      go_wp2_with ((at_builtin; refine wpList_append_run rfl (.tmp 8) (.tmp 9) 102 rfl _ _ _ rfl rfl HR.out ?_))
      go_meet
      refine ⟨rfl, ⟨zs.toList.drop (hitC xs).length, ?_, setRow_heap _ _ zs _ _ _ (heap_alloc_new w _)⟩, ((Only.refl _ w).alloc _).setRowH (.inr (Nat.le_refl _)) _⟩
      rw [List.length_drop, Array.length_toList, ← hsz, hitC_length, HN.out]; omega
  case rest =>
    obtain ⟨rfl, ⟨tl, htl, hblk⟩, ho⟩ := hcut
    have hg : w.heap.size < wc.heap.size := (Array.getElem?_eq_some_iff.1 hblk).1
    have hnew := heap_alloc_new wc (.cells (marksH).toArray 117)
    have hrun := run_append_room (P := Try.prog) (w := wc.alloc (.cells (marksH).toArray 117)) 102 102 117 i3 Try.underlying102 hi3 w.heap.size n (n + 2) (hitC xs ++ tl).toArray ((Below.heap_alloc wc _ _ hg).trans hblk) ⟨wc.heap.size, 0, none⟩ 2 2 marksH (by rw [hs3]; rfl)
      (fun j u hu => by
        rw [show (⟨wc.heap.size, 0, none⟩ : Addr).add j = ⟨wc.heap.size, j, none⟩ by unfold Addr.add; split <;> simp_all]
        exact (Cell.new (by simpa using hu)).cell) (by decide) (Nat.le_refl _) (by simp [hitC_length, HN.out, htl, hs3, marksH])
    have e3 : ((hitC xs ++ tl).toArray.toList.take (n * i3.size) ++ marksH ++ (hitC xs ++ tl).toArray.toList.drop (n * i3.size + marksH.length)).toArray = (hitC xs ++ marksH).toArray := by
      rw [hs3, List.toList_toArray, List.take_append_of_le_length (by rw [hitC_length, HN.out]; omega), List.take_of_length_le (by rw [hitC_length, HN.out]; omega), List.drop_eq_nil_of_le (by rw [List.length_append, hitC_length, HN.out, htl]; simp [marksH]), List.append_nil]
    rw [e3] at hrun
    have HR := Lib.hid hrun
    clear hrun e3 hnew
    have hfin := setRow_heap (wc.alloc (.cells (marksH).toArray 117)) w.heap.size _ (hitC xs ++ marksH).toArray _ _ ((Below.heap_alloc wc _ _ hg).trans hblk)
    have HFIN := Lib.hid hfin
    clear hfin
    go_wp2_with ((at_builtin; refine wpList_append_run rfl (.tmp 11) (.tmp 14) 102 rfl _ _ _ rfl rfl HR.out ?_))
    go_returns
    exact ⟨rfl, HFIN.out, (ho.alloc _).setRowH (.inr (Nat.le_refl _)) _⟩
end Go.Proofs.Ytilngakgofjmpaa

/- Plan: what was lent is as it was (WholeHits). Conditions: at most 2^20 hits. -/
namespace Go.Proofs.Ytilngakgofjmpaa
set_option linter.unusedVariables false
set_option linter.unusedSimpArgs false
open Go.RowKit

theorem hits_blk {w : World} {g : Nat} {xs : List HitR} {tl : List Value} {t : TypeId} (h : w.heap[g]? = some (.cells (hitC xs ++ tl).toArray t (0, 0))) : HitAt w (some ⟨g, 0, none⟩) xs ∧ ∀ j v, tl[j]? = some v → w.cell? ⟨g, xs.length * 4 + j, none⟩ = some v := by
  have hg : g < w.heap.size := (Array.getElem?_eq_some_iff.1 h).1
  have hc : ∀ j v, (hitC xs ++ tl)[j]? = some v → w.cell? ⟨g, j, none⟩ = some v := fun j v hv => by
    rw [cell_of_row w g j _ _ _ h]; simpa using hv
  refine ⟨fun i x hx => ?_, fun j v hv => hc _ v ?_⟩
  · obtain ⟨h1, h2, h3, h4⟩ := hitC_at hx
    have ap : ∀ {k : Nat} {v : Value}, (hitC xs)[k]? = some v → (hitC xs ++ tl)[k]? = some v := fun {k v} hv => by
      rw [List.getElem?_append_left (List.getElem?_eq_some_iff.1 hv).1]; exact hv
    refine ⟨g, 0, rfl, hg, ?_, ?_, ?_, ?_⟩ <;> rw [Nat.zero_add]
    · exact hc _ _ (ap h1)
    · exact hc _ _ (ap h2)
    · exact hc _ _ (ap h3)
    · exact hc _ _ (ap h4)
  · rw [List.getElem?_append_right (by rw [hitC_length]; omega), hitC_length, Nat.add_sub_cancel_left]; exact hv

set_option maxHeartbeats 4000000 in
set_option maxRecDepth 100000 in
theorem s_wholeH (w : World) (g n : Nat) (xs : List HitR) (hblk : w.heap[g]? = some (.cells (hitC xs ++ marksH).toArray 117 (0, 0))) (hn : xs.length = n) (a : Option Addr) (cap : Nat) (hcap : n ≤ cap) (ha : HitAt w a xs) (hN : n ≤ 1048576) :
    Calls Try.prog 50 #[.slice (some ⟨g, 0, none⟩) n (n + 2), .slice a n cap] w fun e w' => e = .returned (.bool true) ∧ Only (fun _ => False) w w' := by
  obtain ⟨hf, hm⟩ := hits_blk hblk
  rw [hn] at hm
  have hsame := k_sameH w xs (some ⟨g, 0, none⟩) a (n + 2) cap (by rw [hn]; omega) hf ha
  rw [hn] at hsame
  have HS := Lib.hid hsame
  have m0 := hm 0 _ rfl
  have m1 := hm 1 _ rfl
  have m2 := hm 2 _ rfl
  have m3 := hm 3 _ rfl
  have m4 := hm 4 _ rfl
  have m5 := hm 5 _ rfl
  have m6 := hm 6 _ rfl
  have m7 := hm 7 _ rfl
  rw [Nat.add_zero] at m0
  rw [show n * 4 + 4 = (n + 1) * 4 by omega] at m4
  rw [show n * 4 + 5 = (n + 1) * 4 + 1 by omega] at m5
  rw [show n * 4 + 6 = (n + 1) * 4 + 2 by omega] at m6
  rw [show n * 4 + 7 = (n + 1) * 4 + 3 by omega] at m7
  have HM := Lib.hid (show _ ∧ _ ∧ _ ∧ _ ∧ _ ∧ _ ∧ _ ∧ _ from ⟨m0, m1, m2, m3, m4, m5, m6, m7⟩)
  have w1 : IntKind.i64.wrap ((n : Int) + 2) = (n : Int) + 2 := by rw [IntKind.wrap_i64]; omega
  have w2 : IntKind.i64.wrap ((n : Int) + 1) = (n : Int) + 1 := by rw [IntKind.wrap_i64]; omega
  clear hsame hm hf hblk ha hn m0 m1 m2 m3 m4 m5 m6 m7
  go_enter Try.func50, Try.ntmps50
  go_wp2_with fail
  refine HS.out.mono ?_
  rintro e w7 ⟨rfl, o7⟩
  obtain ⟨a0, a1, a2, a3, a4, a5, a6, a7⟩ := HM.out
  have m0 := o7.cell a0 id
  have m1 := o7.cell a1 id
  have m2 := o7.cell a2 id
  have m3 := o7.cell a3 id
  have m4 := o7.cell a4 id
  have m5 := o7.cell a5 id
  have m6 := o7.cell a6 id
  have m7 := o7.cell a7 id
  have HO := Lib.hid o7
  clear a0 a1 a2 a3 a4 a5 a6 a7 o7
  go_wp2_with fail
  go_returns
  exact ⟨by rfl, HO.out⟩
end Go.Proofs.Ytilngakgofjmpaa

/- Plan: hits that come in. No condition. -/
namespace Go.Proofs.Ytilngakgofjmpaa
set_option linter.unusedVariables false
set_option linter.unusedSimpArgs false
open Go.RowKit Go.ChangeShapes Go.WideShapes Go.ChangeAt

def toH : List Value → HitR
  | [.int _ i, .int _ p, .int _ q, .bool o] => ⟨i, p, q, o⟩
  | _ => ⟨0, 0, 0, false⟩
theorem row_hit {r : List Value} (h : Fits [.i .i64, .i .i64, .i .i64, .b] r) : r = [.int .i64 (toH r).i, .int .i64 (toH r).p, .int .i64 (toH r).q, .bool (toH r).o] := by
  obtain ⟨a, _, rfl, _, h⟩ := fits_i h
  obtain ⟨b, _, rfl, _, h⟩ := fits_i h
  obtain ⟨c, _, rfl, _, h⟩ := fits_i h
  obtain ⟨d, vs, e, h'⟩ := fits_b h
  have e2 := fits_nil h'
  subst e2
  subst e
  rfl
theorem hitC_split {l : List HitR} {j : Nat} {u : Value} (h : (hitC l)[j]? = some u) : ∃ i x r, j = i * 4 + r ∧ r < 4 ∧ l[i]? = some x ∧ [Value.int .i64 x.i, .int .i64 x.p, .int .i64 x.q, .bool x.o][r]? = some u := by
  have hlt : j < (hitC l).length := (List.getElem?_eq_some_iff.1 h).1
  rw [hitC_length] at hlt
  have hi : j / 4 < l.length := by omega
  refine ⟨j / 4, l[j / 4], j % 4, by omega, by omega, List.getElem?_eq_getElem hi, ?_⟩
  obtain ⟨h1, h2, h3, h5⟩ := hitC_at (l := l) (k := j / 4) (List.getElem?_eq_getElem hi)
  have hj : j = j / 4 * 4 + j % 4 := by omega
  have h4 : j % 4 = 0 ∨ j % 4 = 1 ∨ j % 4 = 2 ∨ j % 4 = 3 := by omega
  rw [hj] at h
  rcases h4 with e | e | e | e
  · rw [e] at h ⊢; rw [Nat.add_zero, h1] at h; exact h
  · rw [e] at h ⊢; rw [h2] at h; exact h
  · rw [e] at h ⊢; rw [h3] at h; exact h
  · rw [e] at h ⊢; rw [h5] at h; exact h
theorem hits_in {w : World} {a : Option Addr} {len cap : Nat} {rows : List (List Value)} (hs : SliceIn w a len cap [.i .i64, .i .i64, .i .i64, .b] rows) :
    ∃ xs : List HitR, xs.length = len ∧ HitAt w a xs ∧ HitIn w a len cap xs := by
  have hf := hs.2.1
  refine ⟨rows.map toH, by rw [List.length_map]; exact hs.1, fun i x hx => ?_, ?_⟩
  · rw [List.getElem?_map, Option.map_eq_some_iff] at hx
    obtain ⟨r, hr, rfl⟩ := hx
    have hil : i < rows.length := (List.getElem?_eq_some_iff.1 hr).1
    obtain ⟨B, off, ha, _, hc⟩ := hs.at_ (by have := hs.1; omega) (by decide)
    have h1 := row_hit (hf r (List.mem_of_getElem? hr))
    have c0 : w.cell? ⟨B, off + i * 4, none⟩ = some (.int .i64 (toH r).i) := by
      have := hc i r hr 0 (.int .i64 (toH r).i) (by rw [h1]; rfl); simpa using this
    refine ⟨B, off, ha, World.block_lt_of_cell? w _ c0, c0, ?_, ?_, ?_⟩
    · have := hc i r hr 1 (.int .i64 (toH r).p) (by rw [h1]; rfl); simpa using this
    · have := hc i r hr 2 (.int .i64 (toH r).q) (by rw [h1]; rfl); simpa using this
    · have := hc i r hr 3 (.bool (toH r).o) (by rw [h1]; rfl); simpa using this
  · rcases hs.2.2 with h | ⟨x, ha, _, _, hc⟩
    · exact .inl h
    · refine .inr ⟨x, ha, fun j u hu => ?_⟩
      obtain ⟨i, y, r, rfl, hr, hy, hu⟩ := hitC_split hu
      rw [List.getElem?_map, Option.map_eq_some_iff] at hy
      obtain ⟨row, hrow, rfl⟩ := hy
      have h1 := row_hit (hf row (List.mem_of_getElem? hrow))
      rw [← h1] at hu
      exact hc i row hrow r u hu
theorem HitIn.only {w w' : World} {a : Option Addr} {n cap : Nat} {xs : List HitR} (h : HitIn w a n cap xs) (ho : Only (fun _ => False) w w') : HitIn w' a n cap xs := by
  rcases h with h | ⟨ad, ha, hc⟩
  · exact .inl h
  · refine .inr ⟨ad, ha, fun j u hu => ?_⟩
    have := hc j u hu
    exact (World.cell?_of_block (w := w) (ho.block _ (World.block_lt_of_cell? w _ this) id)).trans this
end Go.Proofs.Ytilngakgofjmpaa
