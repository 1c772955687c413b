/- Levels: the library's Insert over rows of prices, in the midst, walked. Conditions: a row of one's own; one element, in a block of its own. -/
import Derived.Test.YtkglplngnjgnhaaLv2
namespace Go.Proofs.Ytkglplngnjgnhaa
set_option linter.unusedVariables false
set_option linter.unusedSimpArgs false
open Go.RowKit

/-- The library's look at two slices in two blocks. -/
theorem run_overlaps_lv (w : World) (vb g off lb cb : Nat) (cur : Array Value) (x y : Value) (hv : w.heap[vb]? = some (.cells #[x, y] 110 (0, 0))) (hg : w.heap[g]? = some (.cells cur 110 (0, 0))) (hne : vb ≠ g) (hc : cur.size ≠ 0) :
    (callFunc 96 #[.slice (some ⟨vb, 0, none⟩) 1 1, .slice (some ⟨g, off, none⟩) lb cb]).run Try.prog w = .ok (.value (.bool false)) w := by
  rw [run_callFunc_extern Try.func96 (by kernel_rfl) (by kernel_rfl) (by kernel_rfl) (e := Extern.SlicesOverlaps.overlaps #[102, 102] #[4]) (by kernel_rfl),
    Lib.run_overlaps_apart w 102 4 110 Try.underlying102 2 (fun w => by kernel_rfl) ⟨vb, 0, none⟩ ⟨g, off, none⟩ 1 1 lb cb hne 110 110 2 cur.size (by simp [World.shape?, hv]) (by simp [World.shape?, hg]) hc (by simp [World.frozen?, hv]) (by simp [World.frozen?, hv])]
  rfl

theorem row_list (cur : List Value) (n i : Nat) (x y : Value) (xs : List Value) (hi : i < n) (hx : cur.take (n * 2) = xs) (hl : (n + 1) * 2 ≤ cur.length) :
    (((cur.take ((i + 1) * 2) ++ xs.drop (i * 2) ++ cur.drop ((i + 1) * 2 + (xs.drop (i * 2)).length)).take (i * 2) ++ [x, y] ++ (cur.take ((i + 1) * 2) ++ xs.drop (i * 2) ++ cur.drop ((i + 1) * 2 + (xs.drop (i * 2)).length)).drop (i * 2 + [x, y].length))).take ((n + 1) * 2) = xs.take (i * 2) ++ [x, y] ++ xs.drop (i * 2) := by
  have hxl : xs.length = n * 2 := by rw [← hx, List.length_take]; omega
  have e1 : (cur.take ((i + 1) * 2)).length = (i + 1) * 2 := by rw [List.length_take]; omega
  have e0 : (cur.take (i * 2)) = xs.take (i * 2) := by rw [← hx, List.take_take]; congr 1; omega
  have e2 : (cur.take ((i + 1) * 2) ++ xs.drop (i * 2) ++ cur.drop ((i + 1) * 2 + (xs.drop (i * 2)).length)).take (i * 2) = xs.take (i * 2) := by
    rw [List.append_assoc, List.take_append_of_le_length (by omega), List.take_take, ← e0]; congr 1; omega
  have e3 : (cur.take ((i + 1) * 2) ++ xs.drop (i * 2) ++ cur.drop ((i + 1) * 2 + (xs.drop (i * 2)).length)).drop (i * 2 + [x, y].length) = xs.drop (i * 2) ++ cur.drop ((i + 1) * 2 + (xs.drop (i * 2)).length) := by
    rw [List.append_assoc, List.drop_append_of_le_length (by simp; omega), List.drop_eq_nil_of_le (by rw [e1]; simp; omega), List.nil_append]
  rw [e2, e3, ← List.append_assoc]
  have e4 : (xs.take (i * 2) ++ [x, y] ++ xs.drop (i * 2)).length = (n + 1) * 2 := by simp [hxl]; omega
  rw [List.take_append_of_le_length (by rw [e4]; exact Nat.le_refl _), List.take_of_length_le (by rw [e4]; exact Nat.le_refl _)]

set_option maxHeartbeats 4000000 in
set_option maxRecDepth 100000 in
theorem lv_insert_shift (w : World) (g n c i : Nat) (cur : Array Value) (xs : List Value) (hg : w.heap[g]? = some (.cells cur 110 (0, 0))) (hcur : cur.size = c * 2) (hxs : cur.toList.take (n * 2) = xs) (hnc : n + 1 ≤ c) (hc : c ≤ 9223372036854775807) (hi : i < n) (hn : n ≤ 65536) (h1 : ∀ u ∈ xs, u.oneCell' = true)
    (vb : Nat) (x y : Value) (hv : w.heap[vb]? = some (.cells #[x, y] 110 (0, 0))) (hx : x.oneCell' = true) (hy : y.oneCell' = true) (hne : vb ≠ g) :
    Calls Try.prog 43 #[.slice (some ⟨g, 0, none⟩) n c, .int .i64 i, .slice (some ⟨vb, 0, none⟩) 1 1] w (RowPost w (.slice (some ⟨g, 0, none⟩) n c) (n + 1) (xs.take (i * 2) ++ [x, y] ++ xs.drop (i * 2))) := by
  obtain ⟨i3, hi3, hz3, hs3, hb3⟩ := info_parts Try.infoLevel
  have hxl : xs.length = n * 2 := by rw [← hxs, List.length_take, Array.length_toList]; omega
  have hdl : (xs.drop (i * 2)).length = (n - i) * 2 := by rw [List.length_drop]; omega
  have hov := fun lb cb => run_overlaps_lv w vb g ((i + 1) * 2) lb cb cur x y hv hg hne (by omega)
  have hgd : w.drew.heap[g]? = some (.cells cur 110 (0, 0)) := hg
  have hcp1 : ∀ ty dc sc, (Builtin.copy_ #[102, 102] ty #[.slice (some ⟨g, (i + 1) * 2, none⟩) (n - i) dc, .slice (some ⟨g, i * 2, none⟩) (n + 1 - i) sc]).run Try.prog w.drew = .ok _ _ := fun ty dc sc =>
    run_copy_row w.drew 102 102 ty 110 i3 Try.underlying102 hi3 g ((i + 1) * 2) (n - i) dc cur 110 hgd ⟨g, i * 2, none⟩ (n + 1 - i) sc (xs.drop (i * 2)) (by rw [hdl, hs3]; simp only [Nat.min_def]; split <;> omega)
      (fun j v hj => by
        rw [show (⟨g, i * 2, none⟩ : Addr).add j = ⟨g, i * 2 + j, none⟩ by unfold Addr.add; split <;> simp_all]
        rw [List.getElem?_drop] at hj
        rw [← hxs, List.getElem?_take] at hj
        split at hj
        · show w.cell? _ = _
          rw [cell_of_row w g _ cur _ _ hg]
          simpa using hj
        · cases hj)
      (fun v hv => h1 v (List.mem_of_mem_drop hv)) (by rw [hdl]; omega)
  obtain ⟨row1, hrow1⟩ : ∃ row1, (cur.toList.take ((i + 1) * 2) ++ xs.drop (i * 2) ++ cur.toList.drop ((i + 1) * 2 + (xs.drop (i * 2)).length)).toArray = row1 := ⟨_, rfl⟩
  obtain ⟨W1, hW1⟩ : ∃ W1, w.drew.setRow g row1 = W1 := ⟨_, rfl⟩
  have hrow1s : row1.size = c * 2 := by rw [← hrow1]; simp [hdl]; omega
  have hg1 : W1.heap[g]? = some (.cells row1 110 (0, 0)) := by rw [← hW1]; exact setRow_heap w.drew g cur row1 _ _ hgd
  have hv1 : W1.heap[vb]? = some (.cells #[x, y] 110 (0, 0)) := by rw [← hW1]; exact (setRow_other w.drew g vb row1 hne).trans hv
  have gr1 : w.grownBy W1 (some g) := by rw [← hW1]; exact ⟨rfl, rfl, rfl, by simp [drew_heap], fun k hk hne' => setRow_other w.drew g k row1 (fun e => hne' (by rw [e]))⟩
  have hcp2 : ∀ ty dc, (Builtin.copy_ #[102, 102] ty #[.slice (some ⟨g, i * 2, none⟩) (n + 1 - i) dc, .slice (some ⟨vb, 0, none⟩) 1 1]).run Try.prog W1 = .ok _ _ := fun ty dc =>
    run_copy_row W1 102 102 ty 110 i3 Try.underlying102 hi3 g (i * 2) (n + 1 - i) dc row1 110 hg1 ⟨vb, 0, none⟩ 1 1 [x, y] (by rw [hs3]; simp only [Nat.min_def]; split <;> simp; omega)
      (World.news_of_block hv1) (by intro u hu; simp at hu; rcases hu with rfl | rfl <;> assumption) (by simp [hrow1s]; omega)
  have hfin : ∀ W2, W2.heap[g]? = some (.cells (row1.toList.take (i * 2) ++ [x, y] ++ row1.toList.drop (i * 2 + [x, y].length)).toArray 110 (0, 0)) → W1.grownBy W2 (some g) → RowPost w (.slice (some ⟨g, 0, none⟩) n c) (n + 1) (xs.take (i * 2) ++ [x, y] ++ xs.drop (i * 2)) (.returned (.slice (some ⟨g, 0, none⟩) (n + 1) c)) W2 := fun W2 h2 hgr => by
    refine ⟨_, rfl, ⟨by simp [hxl]; omega, .inr ⟨g, c, _, rfl, Nat.zero_le _, h2, hnc, by unfold maxLen; omega, by simp [hrow1s]; omega, ?_⟩⟩, gr1.trans hgr, .inl rfl⟩
    rw [← hrow1]
    exact row_list cur.toList n i x y xs hi hxs (by rw [Array.length_toList]; omega)
  have hs2 := setRow_heap W1 g row1 (row1.toList.take (i * 2) ++ [x, y] ++ row1.toList.drop (i * 2 + [x, y].length)).toArray _ _ hg1
  have HFIN := Lib.hid (hfin _ hs2 (grownBy_setRow W1 g _))
  obtain ⟨row2, hrow2⟩ : ∃ row2, (row1.toList.take (i * 2) ++ [x, y] ++ row1.toList.drop (i * 2 + [x, y].length)).toArray = row2 := ⟨_, rfl⟩
  rw [hrow2] at hcp2 HFIN
  rw [hrow1, hW1] at hcp1
  have HC1 := Lib.hid hcp1
  have HC2 := Lib.hid hcp2
  have b1 : (0 : Int) ≤ (i : Int) + 1 := by omega
  have b2 : ((i : Int) + 1).toNat = i + 1 := by omega
  have b3 : ¬ (c = i + 1) := by omega
  have b4 : ¬ (c = i) := by omega
  have b5 : (i : Int) ≤ (n : Int) := by omega
  have b6 : ¬ ((i : Int) = (n : Int)) := by omega
  have b7 : ¬ ((c : Int) < (n : Int) + 1) := by omega
  have b8 : (i : Int) + 1 ≤ (n : Int) + 1 := by omega
  have b9 : (i : Int) ≤ (n : Int) + 1 := by omega
  have w1 : IntKind.i64.wrap ((i : Int) + 1) = (i : Int) + 1 := by rw [IntKind.wrap_i64]; omega
  clear hfin hs2 hrow2 hg1 hv1 gr1 hrow1s hW1 hrow1 hcp1 hcp2 hgd hg hv hx hy hxs hcur h1 hxl hdl
  go_enter Try.func43, Try.ntmps43
  go_wp2_with (simp only [hov])
  go_region_law (refine step_copy_run rfl (.tmp 73) (.tmp 76) 102 102 rfl (.slice (some ⟨g, (i + 1) * 2, none⟩) (n - i) (c - (i + 1))) (.slice (some ⟨g, i * 2, none⟩) (n + 1 - i) (c - i)) (by simp [Act.eval, Act.put]) (by simp [Act.eval, Act.put]) (HC1.out _ _ _) ?_)
  go_wp2_with (with_reducible refine wpList_copy_run W1 rfl (.tmp 80) (.tmp 81) 102 102 rfl (.slice (some ⟨g, i * 2, none⟩) (n + 1 - i) (c - i)) (.slice (some ⟨vb, 0, none⟩) 1 1) rfl rfl (HC2.out _ _) ?_)
  go_ret
  exact HFIN.out

theorem grow_list (R xs : List Value) (n i G : Nat) (x y : Value) (hi : i < n) (hx : xs.length = n * 2) (hR : R.length = G * 2) (hG : n + 1 ≤ G) (h0 : R.take (i * 2) = xs.take (i * 2)) :
    (((R.take (i * 2) ++ [x, y] ++ R.drop (i * 2 + [x, y].length)).take ((i + 1) * 2) ++ xs.drop (i * 2) ++ (R.take (i * 2) ++ [x, y] ++ R.drop (i * 2 + [x, y].length)).drop ((i + 1) * 2 + (xs.drop (i * 2)).length))).take ((n + 1) * 2) = xs.take (i * 2) ++ [x, y] ++ xs.drop (i * 2) := by
  have e1 : (xs.take (i * 2)).length = i * 2 := by rw [List.length_take]; omega
  have e2 : (xs.take (i * 2) ++ [x, y]).length = (i + 1) * 2 := by simp [e1]; omega
  have e3 : (xs.take (i * 2) ++ [x, y] ++ R.drop (i * 2 + [x, y].length)).take ((i + 1) * 2) = xs.take (i * 2) ++ [x, y] := by
    rw [List.take_append_of_le_length (by rw [e2]; exact Nat.le_refl _), List.take_of_length_le (by rw [e2]; exact Nat.le_refl _)]
  rw [h0, e3]
  have e4 : (xs.take (i * 2) ++ [x, y] ++ xs.drop (i * 2)).length = (n + 1) * 2 := by rw [List.length_append, e2, List.length_drop]; omega
  rw [List.take_append_of_le_length (by rw [e4]; exact Nat.le_refl _), List.take_of_length_le (by rw [e4]; exact Nat.le_refl _)]

set_option maxHeartbeats 4000000 in
set_option maxRecDepth 100000 in
theorem lv_insert_grow (w : World) (g n c i : Nat) (cur : Array Value) (xs : List Value) (hg : w.heap[g]? = some (.cells cur 110 (0, 0))) (hcur : cur.size = c * 2) (hxs : cur.toList.take (n * 2) = xs) (hnc : n ≤ c) (hc : c < n + 1) (hi : i < n) (hn : n ≤ 65536) (h1 : ∀ u ∈ xs, u.oneCell' = true)
    (vb : Nat) (x y : Value) (hv : w.heap[vb]? = some (.cells #[x, y] 110 (0, 0))) (hx : x.oneCell' = true) (hy : y.oneCell' = true) :
    Calls Try.prog 43 #[.slice (some ⟨g, 0, none⟩) n c, .int .i64 i, .slice (some ⟨vb, 0, none⟩) 1 1] w (RowPost w (.slice (some ⟨g, 0, none⟩) n c) (n + 1) (xs.take (i * 2) ++ [x, y] ++ xs.drop (i * 2))) := by
  obtain ⟨i3, hi3, hz3, hs3, hb3⟩ := info_parts Try.infoLevel
  have hxl : xs.length = n * 2 := by rw [← hxs, List.length_take, Array.length_toList]; omega
  have hdl : (xs.drop (i * 2)).length = (n - i) * 2 := by rw [List.length_drop]; omega
  have htl : (xs.take (i * 2)).length = i * 2 := by rw [List.length_take]; omega
  have hgd : w.drew.heap[g]? = some (.cells cur 110 (0, 0)) := hg
  have hgw : g < w.heap.size := (Array.getElem?_eq_some_iff.1 hg).1
  have hvw : vb < w.heap.size := (Array.getElem?_eq_some_iff.1 hv).1
  have hcell : ∀ (W : World), W.heap[g]? = some (.cells cur 110 (0, 0)) → ∀ j v, xs[j]? = some v → W.cell? ⟨g, j, none⟩ = some v := fun W hW j v hj => by
    rw [← hxs, List.getElem?_take] at hj
    split at hj
    · rw [cell_of_row W g _ cur _ _ hW]; simpa using hj
    · cases hj
  have hold : (Builtin.firstCells i3.size i (.slice (some ⟨g, 0, none⟩) i c)).run Try.prog w.drew = .ok (xs.take (i * 2)).toArray w.drew := by
    rw [hs3]
    exact run_firstCells_some w.drew 2 i ⟨g, 0, none⟩ i c (xs.take (i * 2)) htl (fun j v hj => by
      rw [show (⟨g, 0, none⟩ : Addr).add j = ⟨g, j, none⟩ by unfold Addr.add; split <;> simp_all]
      rw [List.getElem?_take] at hj
      split at hj
      · exact hcell _ hgd j v hj
      · cases hj)
  have hik : i + (n + 1 - i) = n + 1 := by omega
  have hap : ∀ ty, (Builtin.append_ #[102, 3] ty #[.slice (some ⟨g, 0, none⟩) i c, .int .i64 ((n : Int) + 1 - (i : Int))]).run Try.prog w = .ok (.slice (some ⟨w.heap.size, 0, none⟩) (n + 1) (grownCap w (n + 1) c 110)) (w.drew.alloc (.cells ((xs.take (i * 2)).toArray ++ Builtin.zeroCells (Value.agg #[.int .i64 0, .int .i64 0]).cells (n + 1 - i) ++ Builtin.zeroCells (Value.agg #[.int .i64 0, .int .i64 0]).cells (grownCap w (n + 1) c 110 - (n + 1))) 110)) := fun ty => by
    have h := Lib.run_append_grow_zeros w 102 3 ty 110 i3 _ .i64 .i64 Try.underlying102 Try.underlying3 hi3 hz3 (some ⟨g, 0, none⟩) i c (xs.take (i * 2)) hold (n + 1 - i) (by omega) (by omega) (by omega) (by omega) (by rw [hb3]; omega) (by rw [hb3, hik]; exact growslice_fits (by omega) (by omega))
    rw [hik] at h
    rw [show (n : Int) + 1 - (i : Int) = ((n + 1 - i : Nat) : Int) by omega]
    exact h
  obtain ⟨G, hG⟩ : ∃ G, grownCap w (n + 1) c 110 = G := ⟨_, rfl⟩
  have hGn : n + 1 ≤ G := by rw [← hG]; exact grownCap_ge w _ _ _
  have hGm : G ≤ maxLen := by rw [← hG]; exact grownCap_le_maxLen w (n + 1) c 110 (by unfold maxLen; omega)
  have hG63 : G ≤ 9223372036854775807 := by unfold maxLen at hGm; omega
  obtain ⟨ROW, hROW⟩ : ∃ ROW : Array Value, (xs.take (i * 2)).toArray ++ Builtin.zeroCells (Value.agg #[.int .i64 0, .int .i64 0]).cells (n + 1 - i) ++ Builtin.zeroCells (Value.agg #[.int .i64 0, .int .i64 0]).cells (G - (n + 1)) = ROW := ⟨_, rfl⟩
  have hRs : ROW.size = G * 2 := by
    rw [← hROW]
    simp only [Array.size_append, size_zeroCells, List.size_toArray, htl]
    show i * 2 + (n + 1 - i) * 2 + (G - (n + 1)) * 2 = G * 2
    omega
  have hR0 : ROW.toList.take (i * 2) = xs.take (i * 2) := by
    rw [← hROW]
    simp only [Array.toList_append, List.append_assoc]
    rw [List.take_append_of_le_length (by simp [htl]), List.take_of_length_le (by simp [htl])]
  simp only [hG, hROW] at hap
  obtain ⟨W1, hW1⟩ : ∃ W1, w.drew.alloc (.cells ROW 110) = W1 := ⟨_, rfl⟩
  have hB1 : W1.heap[w.heap.size]? = some (.cells ROW 110 (0, 0)) := by rw [← hW1]; exact heap_alloc_new w.drew _
  have hv1 : W1.heap[vb]? = some (.cells #[x, y] 110 (0, 0)) := by rw [← hW1]; exact (Below.heap_alloc w.drew _ _ hvw).trans hv
  have hg1 : W1.heap[g]? = some (.cells cur 110 (0, 0)) := by rw [← hW1]; exact (Below.heap_alloc w.drew _ _ hgw).trans hg
  have gr1 : w.grownBy W1 none := by rw [← hW1]; exact ⟨rfl, rfl, rfl, by simp [drew_heap], fun k hk _ => Below.heap_alloc w.drew _ k hk⟩
  rw [hW1] at hap
  have hcp2 : ∀ ty dc, (Builtin.copy_ #[102, 102] ty #[.slice (some ⟨w.heap.size, i * 2, none⟩) (n + 1 - i) dc, .slice (some ⟨vb, 0, none⟩) 1 1]).run Try.prog W1 = .ok _ _ := fun ty dc =>
    run_copy_row W1 102 102 ty 110 i3 Try.underlying102 hi3 w.heap.size (i * 2) (n + 1 - i) dc ROW 110 hB1 ⟨vb, 0, none⟩ 1 1 [x, y] (by rw [hs3]; simp only [Nat.min_def]; split <;> simp; omega)
      (World.news_of_block hv1) (by intro u hu; simp at hu; rcases hu with rfl | rfl <;> assumption) (by simp [hRs]; omega)
  obtain ⟨row2, hrow2⟩ : ∃ row2, (ROW.toList.take (i * 2) ++ [x, y] ++ ROW.toList.drop (i * 2 + [x, y].length)).toArray = row2 := ⟨_, rfl⟩
  have hr2s : row2.size = G * 2 := by rw [← hrow2]; simp [hRs]; omega
  rw [hrow2] at hcp2
  obtain ⟨W2, hW2⟩ : ∃ W2, W1.setRow w.heap.size row2 = W2 := ⟨_, rfl⟩
  have hne : g ≠ w.heap.size := by omega
  have hB2 : W2.drew.heap[w.heap.size]? = some (.cells row2 110 (0, 0)) := by rw [← hW2]; exact setRow_heap W1 w.heap.size ROW row2 _ _ hB1
  have hg2 : W2.drew.heap[g]? = some (.cells cur 110 (0, 0)) := by rw [← hW2]; exact (setRow_other W1 w.heap.size g row2 hne).trans hg1
  have gr2 : w.grownBy W2.drew none := by rw [← hW2]; exact ⟨gr1.os, gr1.tape, gr1.output, by simpa [drew_heap] using gr1.size, fun k hk hn => (setRow_other W1 w.heap.size k row2 (by omega)).trans (gr1.block k hk hn)⟩
  rw [hW2] at hcp2
  have hcp3 : ∀ ty dc sc, (Builtin.copy_ #[102, 102] ty #[.slice (some ⟨w.heap.size, (i + 1) * 2, none⟩) (n - i) dc, .slice (some ⟨g, i * 2, none⟩) (n - i) sc]).run Try.prog W2.drew = .ok _ _ := fun ty dc sc =>
    run_copy_row W2.drew 102 102 ty 110 i3 Try.underlying102 hi3 w.heap.size ((i + 1) * 2) (n - i) dc row2 110 hB2 ⟨g, i * 2, none⟩ (n - i) sc (xs.drop (i * 2)) (by rw [hdl, hs3, show Nat.min (n - i) (n - i) = n - i from Nat.min_self _])
      (fun j v hj => by
        rw [show (⟨g, i * 2, none⟩ : Addr).add j = ⟨g, i * 2 + j, none⟩ by unfold Addr.add; split <;> simp_all]
        rw [List.getElem?_drop] at hj
        exact hcell _ hg2 _ v hj)
      (fun v hv => h1 v (List.mem_of_mem_drop hv)) (by rw [hdl, hr2s]; omega)
  obtain ⟨row3, hrow3⟩ : ∃ row3, (row2.toList.take ((i + 1) * 2) ++ xs.drop (i * 2) ++ row2.toList.drop ((i + 1) * 2 + (xs.drop (i * 2)).length)).toArray = row3 := ⟨_, rfl⟩
  rw [hrow3] at hcp3
  have hfin : RowPost w (.slice (some ⟨g, 0, none⟩) n c) (n + 1) (xs.take (i * 2) ++ [x, y] ++ xs.drop (i * 2)) (.returned (.slice (some ⟨w.heap.size, 0, none⟩) (n + 1) G)) (W2.drew.setRow w.heap.size row3) := by
    refine ⟨_, rfl, ⟨by simp [hxl]; omega, .inr ⟨w.heap.size, G, row3, rfl, Nat.zero_le _, setRow_heap W2.drew w.heap.size row2 row3 _ _ hB2, hGn, hGm, by rw [← hrow3]; simp [hr2s, hdl]; omega, ?_⟩⟩, ⟨gr2.os, gr2.tape, gr2.output, by simpa using gr2.size, fun k hk hn => (setRow_other W2.drew w.heap.size k row3 (by omega)).trans (gr2.block k hk (by simp))⟩, .inr rfl⟩
    rw [← hrow3, ← hrow2]
    exact grow_list ROW.toList xs n i G x y hi hxl (by rw [Array.length_toList]; exact hRs) hGn hR0
  have HFIN := Lib.hid hfin
  have HAP := Lib.hid hap
  have HC2 := Lib.hid hcp2
  have HC3 := Lib.hid hcp3
  have b1 : (0 : Int) ≤ (i : Int) + 1 := by omega
  have b2 : ((i : Int) + 1).toNat = i + 1 := by omega
  have b3 : ¬ (G = i + 1) := by omega
  have b4 : ¬ (c = i) := by omega
  have b4' : ¬ (G = i) := by omega
  have b5 : (i : Int) ≤ (n : Int) := by omega
  have b6 : ¬ ((i : Int) = (n : Int)) := by omega
  have b7 : (c : Int) < (n : Int) + 1 := by omega
  have b8 : (i : Int) + 1 ≤ (n : Int) + 1 := by omega
  have b9 : (i : Int) ≤ (n : Int) + 1 := by omega
  have b10 : (i : Int) ≤ (c : Int) := by omega
  have w1 : IntKind.i64.wrap ((i : Int) + 1) = (i : Int) + 1 := by rw [IntKind.wrap_i64]; omega
  clear hfin hap hcp2 hcp3 hrow3 hrow2 gr2 gr1 hg2 hB2 hW2 hg1 hv1 hB1 hW1 hR0 hRs hROW hGm hold hcell hgd hg hv hx hy hxs hcur h1 hxl hdl htl hr2s hG
  go_enter Try.func43, Try.ntmps43
  go_wp2_with (first
    | (with_reducible refine wpList_append_run2 w rfl (.tmp 34) (.tmp 39) 102 3 rfl (.slice (some ⟨g, 0, none⟩) i c) (.int .i64 ((n : Int) + 1 - (i : Int))) rfl rfl (HAP.out _) ?_)
    | (with_reducible refine wpList_copy_run W1 rfl (.tmp 43) (.tmp 44) 102 102 rfl (.slice (some ⟨w.heap.size, i * 2, none⟩) (n + 1 - i) (G - i)) (.slice (some ⟨vb, 0, none⟩) 1 1) rfl rfl (HC2.out _ _) ?_))
  go_region_law (refine step_copy_run rfl (.tmp 50) (.tmp 53) 102 102 rfl (.slice (some ⟨w.heap.size, (i + 1) * 2, none⟩) (n - i) (G - (i + 1))) (.slice (some ⟨g, i * 2, none⟩) (n - i) (c - i)) (by simp [Act.eval, Act.put]) (by simp [Act.eval, Act.put]) (HC3.out _ _ _) ?_)
  go_wp2
  go_ret
  exact HFIN.out
end Go.Proofs.Ytkglplngnjgnhaa
