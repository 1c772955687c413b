/- Levels: the library's Delete over rows of prices, walked; Insert, whatever the room. Conditions: a row of one's own. -/
import Derived.Test.YtkglplngnjgnhaaLv3
namespace Go.Proofs.Ytkglplngnjgnhaa
set_option linter.unusedVariables false
set_option linter.unusedSimpArgs false
open Go.RowKit

theorem lv_insert (w : World) (v : Value) (n i : Nat) (xs : List Value) (hown : w.ownsRow 0 110 2 v n xs) (hn : n ≤ 65536) (hi : i ≤ n) (h1 : ∀ u ∈ xs, u.oneCell' = true) (vb : Nat) (x y : Value) (hv : w.heap[vb]? = some (.cells #[x, y] 110 (0, 0))) (hx : x.oneCell' = true) (hy : y.oneCell' = true) (hne : v.ownBlock ≠ some vb) :
    Calls Try.prog 43 #[v, .int .i64 i, .slice (some ⟨vb, 0, none⟩) 1 1] w (RowPost w v (n + 1) (xs.take (i * 2) ++ [x, y] ++ xs.drop (i * 2))) := by
  have hxl := hown.1
  by_cases hin : i = n
  · subst hin
    rw [List.take_of_length_le (by omega), List.drop_eq_nil_of_le (by omega), List.append_nil]
    exact lv_insert_end w v i xs hown hn vb x y hv hx hy
  · rcases hown.2 with ⟨rfl, h0⟩ | ⟨g, c, cur, rfl, _, hg, hnc, hc, hcs, hct⟩
    · omega
    · have hne' : vb ≠ g := fun e => hne (by rw [e]; rfl)
      by_cases hr : n + 1 ≤ c
      · exact lv_insert_shift w g n c i cur xs hg hcs hct hr (by unfold maxLen at hc; omega) (by omega) hn h1 vb x y hv hx hy hne'
      · exact lv_insert_grow w g n c i cur xs hg hcs hct hnc (by omega) (by omega) hn h1 vb x y hv hx hy

theorem del_list (cur xs : List Value) (n i : Nat) (zs : List Value) (hi : i < n) (hx : cur.take (n * 2) = xs) (hl : n * 2 ≤ cur.length) :
    ((cur.take (i * 2) ++ xs.drop ((i + 1) * 2) ++ cur.drop (i * 2 + (xs.drop ((i + 1) * 2)).length)).take ((n - 1) * 2) ++ zs ++ (cur.take (i * 2) ++ xs.drop ((i + 1) * 2) ++ cur.drop (i * 2 + (xs.drop ((i + 1) * 2)).length)).drop ((n - 1) * 2 + zs.length)).take ((n - 1) * 2) = xs.take (i * 2) ++ xs.drop ((i + 1) * 2) := by
  have hxl : xs.length = n * 2 := by rw [← hx, List.length_take]; omega
  have e0 : (cur.take (i * 2)) = xs.take (i * 2) := by rw [← hx, List.take_take]; congr 1; omega
  have e1 : (xs.take (i * 2) ++ xs.drop ((i + 1) * 2)).length = (n - 1) * 2 := by simp [hxl]; omega
  have e2 : (cur.take (i * 2) ++ xs.drop ((i + 1) * 2) ++ cur.drop (i * 2 + (xs.drop ((i + 1) * 2)).length)).take ((n - 1) * 2) = xs.take (i * 2) ++ xs.drop ((i + 1) * 2) := by
    rw [e0, List.take_append_of_le_length (by rw [e1]; exact Nat.le_refl _), List.take_of_length_le (by rw [e1]; exact Nat.le_refl _)]
  rw [e2, List.append_assoc (xs.take (i * 2) ++ xs.drop ((i + 1) * 2)), List.take_append_of_le_length (by rw [e1]; exact Nat.le_refl _), List.take_of_length_le (by rw [e1]; exact Nat.le_refl _)]

set_option maxHeartbeats 4000000 in
set_option maxRecDepth 100000 in
theorem lv_delete (w : World) (v : Value) (n i : Nat) (xs : List Value) (hown : w.ownsRow 0 110 2 v n xs) (hn : n ≤ 65536) (hi : i < n) (h1 : ∀ u ∈ xs, u.oneCell' = true) :
    Calls Try.prog 44 #[v, .int .i64 i, .int .i64 ((i : Int) + 1)] w (RowPost w v (n - 1) (xs.take (i * 2) ++ xs.drop ((i + 1) * 2))) := by
  rcases hown.2 with ⟨rfl, h0⟩ | ⟨g, c, cur, rfl, _, hg, hnc, hc, hcs, hct⟩
  · omega
  obtain ⟨i3, hi3, hz3, hs3, hb3⟩ := info_parts Try.infoLevel
  have hxl := hown.1
  have hdl : (xs.drop ((i + 1) * 2)).length = (n - (i + 1)) * 2 := by rw [List.length_drop]; omega
  have hgd : w.drew.heap[g]? = some (.cells cur 110 (0, 0)) := hg
  have hsrc : ∃ A, (if c = i + 1 then some (⟨g, 0, none⟩ : Addr) else some ⟨g, (i + 1) * 2, none⟩) = some A ∧ ∀ j u, (xs.drop ((i + 1) * 2))[j]? = some u → w.drew.cell? (A.add j) = some u := by
    by_cases e : c = i + 1
    · refine ⟨_, if_pos e, fun j u hu => ?_⟩
      have := (List.getElem?_eq_some_iff.1 hu).1
      rw [hdl] at this; omega
    · refine ⟨_, if_neg e, fun j u hu => ?_⟩
      rw [show (⟨g, (i + 1) * 2, none⟩ : Addr).add j = ⟨g, (i + 1) * 2 + j, none⟩ by unfold Addr.add; split <;> simp_all]
      rw [List.getElem?_drop, ← hct, List.getElem?_take] at hu
      split at hu
      · rw [cell_of_row w.drew g _ cur _ _ hgd]; simpa using hu
      · cases hu
  obtain ⟨A, hA, hsrc⟩ := hsrc
  have hap := fun ty => run_append_room (P := Try.prog) (w := w.drew) 102 ty 110 i3 Try.underlying102 hi3 g i c cur hgd A (n - (i + 1)) (c - (i + 1)) (xs.drop ((i + 1) * 2)) (by rw [hdl, hs3]) hsrc (fun v hv => h1 v (List.mem_of_mem_drop hv)) (by omega) (by rw [hdl, hs3]; omega)
  rw [hs3] at hap
  obtain ⟨row1, hrow1⟩ : ∃ row1, (cur.toList.take (i * 2) ++ xs.drop ((i + 1) * 2) ++ cur.toList.drop (i * 2 + (xs.drop ((i + 1) * 2)).length)).toArray = row1 := ⟨_, rfl⟩
  have hr1s : row1.size = c * 2 := by rw [← hrow1]; simp [hdl]; omega
  obtain ⟨W1, hW1⟩ : ∃ W1, w.drew.setRow g row1 = W1 := ⟨_, rfl⟩
  have hg1 : W1.heap[g]? = some (.cells row1 110 (0, 0)) := by rw [← hW1]; exact setRow_heap w.drew g cur row1 _ _ hgd
  have gr1 : w.grownBy W1 (some g) := by rw [← hW1]; exact ⟨rfl, rfl, rfl, by simp [drew_heap], fun k hk hne' => setRow_other w.drew g k row1 (fun e => hne' (by rw [e]))⟩
  simp only [hrow1, hW1, show i + (n - (i + 1)) = n - 1 by omega] at hap
  have hzl : (Builtin.zeroCells (Value.agg #[.int .i64 0, .int .i64 0]).cells 1).size = 2 := by kernel_rfl
  have hcl := fun ty sc => run_clear_row (P := Try.prog) W1 102 ty 110 i3 _ Try.underlying102 hi3 hz3 g ((n - 1) * 2) 1 sc (by decide) row1 110 hg1 (by decide +kernel) (by rw [hzl]; omega)
  rw [hzl] at hcl
  obtain ⟨zs, hzs⟩ : ∃ zs, (Builtin.zeroCells (Value.agg #[.int .i64 0, .int .i64 0]).cells 1).toList = zs := ⟨_, rfl⟩
  have hzsl : zs.length = 2 := by rw [← hzs, Array.length_toList]; exact hzl
  obtain ⟨row2, hrow2⟩ : ∃ row2, (row1.toList.take ((n - 1) * 2) ++ zs ++ row1.toList.drop ((n - 1) * 2 + 2)).toArray = row2 := ⟨_, rfl⟩
  simp only [hzs, hrow2] at hcl
  have hfin : RowPost w (.slice (some ⟨g, 0, none⟩) n c) (n - 1) (xs.take (i * 2) ++ xs.drop ((i + 1) * 2)) (.returned (.slice (some ⟨g, 0, none⟩) (n - 1) c)) (W1.setRow g row2) := by
    refine ⟨_, rfl, ⟨by simp [hxl]; omega, .inr ⟨g, c, row2, rfl, Nat.zero_le _, setRow_heap W1 g row1 row2 _ _ hg1, by omega, hc, by rw [← hrow2]; simp [hr1s, hzsl]; omega, ?_⟩⟩, gr1.trans (grownBy_setRow W1 g row2), .inl rfl⟩
    have hdel := del_list cur.toList xs n i zs hi hct (by rw [Array.length_toList]; omega)
    rw [hzsl] at hdel
    rw [← hrow2, ← hrow1]
    exact hdel
  have HFIN := Lib.hid hfin
  have HAP := Lib.hid hap
  have HCL := Lib.hid hcl
  have b0 : (0 : Int) ≤ (i : Int) + 1 := by omega
  have b2 : ((i : Int) + 1).toNat = i + 1 := by omega
  have b3 : (i : Int) + 1 ≤ (n : Int) := by omega
  have b4 : (i : Int) ≤ (i : Int) + 1 := by omega
  have b5 : (i : Int) ≤ (c : Int) := by omega
  have b6 : ((i : Int) == (i : Int) + 1) = false := by simp; omega
  have b7 : (n : Int) ≤ (c : Int) := by omega
  have b8 : (i : Int) + 1 ≤ (c : Int) := by omega
  have b9 : ((n - 1 : Nat) : Int) ≤ (n : Int) := by omega
  have b10 : n - (n - 1) = 1 := by omega
  have b11 : ¬ (c = n - 1) := by omega
  have hc63 : c ≤ 9223372036854775807 := by unfold maxLen at hc; omega
  clear hfin hap hcl hrow2 hrow1 hW1 hg1 gr1 hgd hg hcs hct h1 hxl hdl hsrc hzs hzl hzsl hr1s hc hown
  go_enter Try.func44, Try.ntmps44
  go_wp2_with fail
  go_region_law (refine step_append_run2 rfl (.tmp 22) (.tmp 25) 102 102 rfl (.slice (some ⟨g, 0, none⟩) i c) (.slice (some A) (n - (i + 1)) (c - (i + 1))) (by simp [Act.eval, Act.put]) (by simp [Act.eval, Act.put, hA]) (HAP.out _) ?_)
  go_wp2_with (with_reducible refine wpList_clear_run W1 rfl (.tmp 31) 102 rfl (.slice (some ⟨g, (n - 1) * 2, none⟩) 1 (c - (n - 1))) rfl (HCL.out _ _) ?_)
  go_ret
  exact HFIN.out
end Go.Proofs.Ytkglplngnjgnhaa
