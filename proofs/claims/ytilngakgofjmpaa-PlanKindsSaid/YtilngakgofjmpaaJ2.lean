/- Levels: the library's Insert and Delete over rows of prices. Conditions: a row of one's own. -/
import Derived.Test.YtilngakgofjmpaaJ1
import Derived.Lib.Overlaps
import Derived.Lib.AppendZerosOnto
import Derived.Laws.Externs
import Derived.Laws.IdiomCopy
import Derived.Laws.CopyRow
import Derived.Test.YtilngakgofjmpaaRows
namespace Go.Proofs.Ytilngakgofjmpaa
set_option linter.unusedVariables false
set_option linter.unusedSimpArgs false
open Go.RowKit

section
variable {P : Program}
/-- copy into a row, where what is copied is known. -/
theorem run_copy_row (w : World) (dT sT ty e : TypeId) (i : TypeInfo) (hu : P.underlying dT = some (.slice e)) (hi : P.info? e = some i) (g o dLen dCap : Nat) (cur : Array Value) (t : TypeId) (hg : w.heap[g]? = some (.cells cur t (0, 0)))
    (a : Addr) (sLen sCap : Nat) (cs : List Value) (hn : cs.length = Nat.min sLen dLen * i.size) (hsrc : ∀ j v, cs[j]? = some v → w.cell? (a.add j) = some v) (h1 : ∀ v ∈ cs, v.oneCell' = true) (hfit : o + cs.length ≤ cur.size) :
    (Builtin.copy_ #[dT, sT] ty #[.slice (some ⟨g, o, none⟩) dLen dCap, .slice (some a) sLen sCap]).run P w =
      .ok (goInt (Nat.min sLen dLen)) (w.setRow g (cur.toList.take o ++ cs ++ cur.toList.drop (o + cs.length)).toArray) := by
  have hf := run_firstCells_some (P := P) w i.size (Nat.min sLen dLen) a sLen sCap cs hn hsrc
  have hst := run_storeCells_at P g o t cs 0 cur w hg (by simpa using hfit) h1
  simp only [Nat.add_zero] at hst
  simp only [Builtin.copy_, Builtin.lenOf, sizeOf, typeInfo, Sem.run_bind, Sem.run_pure, run_underlying hu, Result.andThen_ok, List.getElem?_toArray, List.getElem?_cons_zero, List.getElem?_cons_succ, hi, hf, hst]
  simp [run_underlying hu, hi, hf, hst]

/-- copy, for the walk, where its run is known. -/
theorem wp_copy_run (w : World) {o : Oper} {a : Act} {K : Act → World → Prop} {Q : Exit → Act → World → Prop} (d s : Operand) (t t' : TypeId)
    (ho : o.op = .call { callee := .builtin .copy, args := #[d, s], argTypes := #[t, t'] }) (v u : Value) (hd : a.eval d = v) (hs : a.eval s = u) {v' : Value} {w' : World}
    (hr : (Builtin.copy_ #[t, t'] o.type #[v, u]).run P w = .ok v' w') (h : K (a.put o.dst v') w') : o.wp P a w K Q := by
  unfold Oper.wp execOp
  simp only [ho, resolve, invoke, builtin, Sem.run_bind, Sem.run_pure, Result.andThen_ok, List.map_toArray, List.map_cons, List.map_nil, hd, hs, hr]
  exact h
theorem wpList_copy_run (w : World) {ops : Array Oper} {rest : List Oper} {o : Oper} {a : Act} {Q : Exit → Act → World → Prop} (hgd : o.guard = none) (d s : Operand) (t t' : TypeId)
    (ho : o.op = .call { callee := .builtin .copy, args := #[d, s], argTypes := #[t, t'] }) (v u : Value) (hd : a.eval d = v) (hs : a.eval s = u) {v' : Value} {w' : World}
    (hr : (Builtin.copy_ #[t, t'] o.type #[v, u]).run P w = .ok v' w') (h : wpList P ops Q rest (a.put o.dst v') w') : wpList P ops Q (o :: rest) a w :=
  wpList_plain hgd fun _ hK => wp_copy_run w d s t t' ho v u hd hs hr (hK _ _ h)
theorem step_copy_run {ops : Array Oper} {o : Oper} {a : Act} {w : World} {K : Act → World → Prop} {Q : Exit → Act → World → Prop} {E : Prop}
    (hg : o.guard = none) (d x : Operand) (dT sT : TypeId) (hop : o.op = Op.call { callee := Callee.builtin Builtin.copy, args := #[d, x], argTypes := #[dT, sT] })
    (v u : Value) (hd : a.eval d = v) (hx : a.eval x = u) {v' : Value} {w' : World} (hr : (Builtin.copy_ #[dT, sT] o.type #[v, u]).run P w = .ok v' w') (hK : K (a.put o.dst v') w') :
    if Region.wanted o (yielded ops a.tmps) = true then Oper.wp P o a w K Q else E := by
  have hw : Region.wanted o (yielded ops a.tmps) = true := by simp [Region.wanted, hg]
  rw [if_pos hw]
  exact wp_copy_run w d x dT sT hop v u hd hx hr hK

/-- append of so many zero values, for the walk, where its run is known. -/
theorem wpList_append_run2 (w : World) {ops : Array Oper} {rest : List Oper} {o : Oper} {a : Act} {Q : Exit → Act → World → Prop} (hgd : o.guard = none) (d s : Operand) (t t' : TypeId)
    (ho : o.op = .call { callee := .builtin .append, args := #[d, s], argTypes := #[t, t'] }) (v u : Value) (hd : a.eval d = v) (hs : a.eval s = u) {v' : Value} {w' : World}
    (hr : (Builtin.append_ #[t, t'] o.type #[v, u]).run P w = .ok v' w') (h : wpList P ops Q rest (a.put o.dst v') w') : wpList P ops Q (o :: rest) a w := by
  refine wpList_plain hgd fun K hK => ?_
  unfold Oper.wp execOp
  simp only [ho, resolve, invoke, builtin, Sem.run_bind, Sem.run_pure, Result.andThen_ok, List.map_toArray, List.map_cons, List.map_nil, hd, hs, hr]
  exact hK _ _ h

theorem step_append_run2 {ops : Array Oper} {o : Oper} {a : Act} {w : World} {K : Act → World → Prop} {Q : Exit → Act → World → Prop} {E : Prop}
    (hg : o.guard = none) (d x : Operand) (dT sT : TypeId) (hop : o.op = Op.call { callee := Callee.builtin Builtin.append, args := #[d, x], argTypes := #[dT, sT] })
    (v u : Value) (hd : a.eval d = v) (hx : a.eval x = u) {v' : Value} {w' : World} (hr : (Builtin.append_ #[dT, sT] o.type #[v, u]).run P w = .ok v' w') (hK : K (a.put o.dst v') w') :
    if Region.wanted o (yielded ops a.tmps) = true then Oper.wp P o a w K Q else E := by
  have hw : Region.wanted o (yielded ops a.tmps) = true := by simp [Region.wanted, hg]
  rw [if_pos hw]
  unfold Oper.wp execOp
  simp only [hop, resolve, invoke, builtin, Sem.run_bind, Sem.run_pure, Result.andThen_ok, List.map_toArray, List.map_cons, List.map_nil, hd, hx, hr]
  exact hK
/-- clear, for the walk, where its run is known. -/
theorem wpList_clear_run (w : World) {ops : Array Oper} {rest : List Oper} {o : Oper} {a : Act} {Q : Exit → Act → World → Prop} (hgd : o.guard = none) (d : Operand) (t : TypeId)
    (ho : o.op = .call { callee := .builtin .clear, args := #[d], argTypes := #[t] }) (v : Value) (hd : a.eval d = v) {v' : Value} {w' : World}
    (hr : (Builtin.clear_ #[t] o.type #[v]).run P w = .ok v' w') (h : wpList P ops Q rest (a.put o.dst v') w') : wpList P ops Q (o :: rest) a w := by
  refine wpList_plain hgd fun K hK => ?_
  unfold Oper.wp execOp
  simp only [ho, resolve, invoke, builtin, Sem.run_bind, Sem.run_pure, Result.andThen_ok, List.map_toArray, List.map_cons, List.map_nil, hd, hr]
  exact hK _ _ h

/-- clear of a row's tail. -/
theorem run_clear_row (w : World) (t ty e : TypeId) (i : TypeInfo) (z : Value) (hu : P.underlying t = some (.slice e)) (hi : P.info? e = some i) (hz : i.zero = some z) (g o n c : Nat) (h0 : 0 < n) (cur : Array Value) (t' : TypeId) (hg : w.heap[g]? = some (.cells cur t' (0, 0)))
    (h1 : ∀ v ∈ (Builtin.zeroCells z.cells n).toList, v.oneCell' = true) (hfit : o + (Builtin.zeroCells z.cells n).size ≤ cur.size) :
    (Builtin.clear_ #[t] ty #[.slice (some ⟨g, o, none⟩) n c]).run P w =
      .ok (.tuple #[]) (w.setRow g (cur.toList.take o ++ (Builtin.zeroCells z.cells n).toList ++ cur.toList.drop (o + (Builtin.zeroCells z.cells n).size)).toArray) := by
  have hst := run_storeCells_at P g o t' (Builtin.zeroCells z.cells n).toList 0 cur w hg (by simpa using hfit) h1
  simp only [Nat.add_zero, Array.length_toList] at hst
  obtain ⟨m, rfl⟩ : ∃ m, n = m + 1 := ⟨n - 1, by omega⟩
  simp [Builtin.clear_, run_underlying hu, zeroValue, typeInfo, hi, hz, hst]
end
end Go.Proofs.Ytilngakgofjmpaa

/- Levels: the library's Insert over rows of prices, walked. Conditions: a row of one's own; one element, in a block of its own. -/
namespace Go.Proofs.Ytilngakgofjmpaa
set_option linter.unusedVariables false
set_option linter.unusedSimpArgs false
open Go.RowKit

theorem Try.infoLevel : (Try.prog.info? 137).map (fun i => (i.zero, i.size, i.bytes)) = some (some (.agg #[.int .i64 0, .int .i64 0]), 2, 16) := by kernel_rfl

/-- A row is another one: where it lies. -/
def RowPost (w : World) (v : Value) (n : Nat) (xs : List Value) (e : Ending) (w' : World) : Prop :=
  ∃ v', e = .returned v' ∧ w'.ownsRow 0 137 2 v' n xs ∧ w.grownBy w' v.ownBlock ∧ (v'.ownBlock = v.ownBlock ∨ v'.ownBlock = some w.heap.size)

theorem grownBy_setRow (w : World) (g : Nat) (cs : Array Value) : w.grownBy (w.setRow g cs) (some g) :=
  ⟨rfl, rfl, rfl, by simp, fun k hk hne => setRow_other w g k cs (fun e => hne (by rw [e]))⟩
theorem grownBy_drew {a b : World} {row : Option Nat} (h : a.grownBy b row) : a.grownBy b.drew row := ⟨h.os, h.tape, h.output, h.size, h.block⟩
theorem drew_heap (w : World) : w.drew.heap = w.heap := rfl

set_option maxHeartbeats 4000000 in
set_option maxRecDepth 100000 in
theorem lv_insert_end (w : World) (v : Value) (n : Nat) (xs : List Value) (hown : w.ownsRow 0 137 2 v n xs) (hn : n ≤ 65536) (vb : Nat) (x y : Value) (hv : w.heap[vb]? = some (.cells #[x, y] 137 (0, 0))) (hx : x.oneCell' = true) (hy : y.oneCell' = true) :
    Calls Try.prog 63 #[v, .int .i64 n, .slice (some ⟨vb, 0, none⟩) 1 1] w (RowPost w v (n + 1) (xs ++ [x, y])) := by
  obtain ⟨i3, hi3, hz3, hs3, hb3⟩ := info_parts Try.infoLevel
  have hn1 : ∀ j u, [x, y][j]? = some u → w.cell? ((⟨vb, 0, none⟩ : Addr).add j) = some u := World.news_of_block hv
  have ho1 : ∀ u ∈ [x, y], u.oneCell' = true := by intro u hu; simp at hu; rcases hu with rfl | rfl <;> assumption
  have HOWN := Lib.hid hown
  have HN1 := Lib.hid hn1
  have HO1 := Lib.hid ho1
  obtain ⟨a, cap, rfl, hcap⟩ := own_slice hown
  clear hown hn1 ho1 hv hx hy
  have b1 : (n : Int) ≤ (cap : Int) := by omega
  by_cases hc : cap = n
  · subst hc
    go_enter Try.func63, Try.ntmps63
    go_wp2_with (at_builtin; refine wpList_append_own_at _ rfl (.tmp 23) (.tmp 24) 129 rfl 0 137 i3 (.agg #[.int .i64 0, .int .i64 0]) 2 16 Try.underlying129 hi3 hz3 hs3 hb3 rfl (by decide) (.slice a cap cap) cap xs rfl HOWN.out ⟨vb, 0, none⟩ 1 1 [x, y] rfl rfl HN1.out HO1.out (by unfold maxLen; omega) (by omega) (Nat.zero_le _) ?_; intro v1 w2 hown1 hgrow1 hnil1 hat1; have HP := Lib.hid (show RowPost w (.slice a cap cap) (cap + 1) (xs ++ [x, y]) (.returned v1) w2 from ⟨v1, rfl, hown1, hgrow1, hat1⟩); clear hown1 hgrow1 hnil1 hat1)
    go_returns
    exact HP.out
  · have hc' : ¬ ((cap : Int) = (n : Int)) := by omega
    go_enter Try.func63, Try.ntmps63
    go_wp2_with (at_builtin; refine wpList_append_own_at _ rfl (.tmp 23) (.tmp 24) 129 rfl 0 137 i3 (.agg #[.int .i64 0, .int .i64 0]) 2 16 Try.underlying129 hi3 hz3 hs3 hb3 rfl (by decide) (.slice a n cap) n xs rfl HOWN.out ⟨vb, 0, none⟩ 1 1 [x, y] rfl rfl HN1.out HO1.out (by unfold maxLen; omega) (by omega) (Nat.zero_le _) ?_; intro v1 w2 hown1 hgrow1 hnil1 hat1; have HP := Lib.hid (show RowPost w (.slice a n cap) (n + 1) (xs ++ [x, y]) (.returned v1) w2 from ⟨v1, rfl, hown1, hgrow1, hat1⟩); clear hown1 hgrow1 hnil1 hat1)
    go_returns
    exact HP.out
end Go.Proofs.Ytilngakgofjmpaa

/- Levels: the library's Insert over rows of prices, in the midst, walked. Conditions: a row of one's own; one element, in a block of its own. -/
namespace Go.Proofs.Ytilngakgofjmpaa
set_option linter.unusedVariables false
set_option linter.unusedSimpArgs false
open Go.RowKit

/-- The library's look at two slices in two blocks. -/
theorem run_overlaps_lv (w : World) (vb g off lb cb : Nat) (cur : Array Value) (x y : Value) (hv : w.heap[vb]? = some (.cells #[x, y] 137 (0, 0))) (hg : w.heap[g]? = some (.cells cur 137 (0, 0))) (hne : vb ≠ g) (hc : cur.size ≠ 0) :
    (callFunc 124 #[.slice (some ⟨vb, 0, none⟩) 1 1, .slice (some ⟨g, off, none⟩) lb cb]).run Try.prog w = .ok (.value (.bool false)) w := by
  rw [run_callFunc_extern Try.func124 (by kernel_rfl) (by kernel_rfl) (by kernel_rfl) (e := Extern.SlicesOverlaps.overlaps #[129, 129] #[4]) (by kernel_rfl),
    Lib.run_overlaps_apart w 129 4 137 Try.underlying129 2 (fun w => by kernel_rfl) ⟨vb, 0, none⟩ ⟨g, off, none⟩ 1 1 lb cb hne 137 137 2 cur.size (by simp [World.shape?, hv]) (by simp [World.shape?, hg]) hc (by simp [World.frozen?, hv]) (by simp [World.frozen?, hv])]
  rfl

theorem row_list (cur : List Value) (n i : Nat) (x y : Value) (xs : List Value) (hi : i < n) (hx : cur.take (n * 2) = xs) (hl : (n + 1) * 2 ≤ cur.length) :
    (((cur.take ((i + 1) * 2) ++ xs.drop (i * 2) ++ cur.drop ((i + 1) * 2 + (xs.drop (i * 2)).length)).take (i * 2) ++ [x, y] ++ (cur.take ((i + 1) * 2) ++ xs.drop (i * 2) ++ cur.drop ((i + 1) * 2 + (xs.drop (i * 2)).length)).drop (i * 2 + [x, y].length))).take ((n + 1) * 2) = xs.take (i * 2) ++ [x, y] ++ xs.drop (i * 2) := by
  have hxl : xs.length = n * 2 := by rw [← hx, List.length_take]; omega
  have e1 : (cur.take ((i + 1) * 2)).length = (i + 1) * 2 := by rw [List.length_take]; omega
  have e0 : (cur.take (i * 2)) = xs.take (i * 2) := by rw [← hx, List.take_take]; congr 1; omega
  have e2 : (cur.take ((i + 1) * 2) ++ xs.drop (i * 2) ++ cur.drop ((i + 1) * 2 + (xs.drop (i * 2)).length)).take (i * 2) = xs.take (i * 2) := by
    rw [List.append_assoc, List.take_append_of_le_length (by omega), List.take_take, ← e0]; congr 1; omega
  have e3 : (cur.take ((i + 1) * 2) ++ xs.drop (i * 2) ++ cur.drop ((i + 1) * 2 + (xs.drop (i * 2)).length)).drop (i * 2 + [x, y].length) = xs.drop (i * 2) ++ cur.drop ((i + 1) * 2 + (xs.drop (i * 2)).length) := by
    rw [List.append_assoc, List.drop_append_of_le_length (by simp; omega), List.drop_eq_nil_of_le (by rw [e1]; simp; omega), List.nil_append]
  rw [e2, e3, ← List.append_assoc]
  have e4 : (xs.take (i * 2) ++ [x, y] ++ xs.drop (i * 2)).length = (n + 1) * 2 := by simp [hxl]; omega
  rw [List.take_append_of_le_length (by rw [e4]; exact Nat.le_refl _), List.take_of_length_le (by rw [e4]; exact Nat.le_refl _)]

set_option maxHeartbeats 4000000 in
set_option maxRecDepth 100000 in
theorem lv_insert_shift (w : World) (g n c i : Nat) (cur : Array Value) (xs : List Value) (hg : w.heap[g]? = some (.cells cur 137 (0, 0))) (hcur : cur.size = c * 2) (hxs : cur.toList.take (n * 2) = xs) (hnc : n + 1 ≤ c) (hc : c ≤ 9223372036854775807) (hi : i < n) (hn : n ≤ 65536) (h1 : ∀ u ∈ xs, u.oneCell' = true)
    (vb : Nat) (x y : Value) (hv : w.heap[vb]? = some (.cells #[x, y] 137 (0, 0))) (hx : x.oneCell' = true) (hy : y.oneCell' = true) (hne : vb ≠ g) :
    Calls Try.prog 63 #[.slice (some ⟨g, 0, none⟩) n c, .int .i64 i, .slice (some ⟨vb, 0, none⟩) 1 1] w (RowPost w (.slice (some ⟨g, 0, none⟩) n c) (n + 1) (xs.take (i * 2) ++ [x, y] ++ xs.drop (i * 2))) := by
  obtain ⟨i3, hi3, hz3, hs3, hb3⟩ := info_parts Try.infoLevel
  have hxl : xs.length = n * 2 := by rw [← hxs, List.length_take, Array.length_toList]; omega
  have hdl : (xs.drop (i * 2)).length = (n - i) * 2 := by rw [List.length_drop]; omega
  have hov := fun lb cb => run_overlaps_lv w vb g ((i + 1) * 2) lb cb cur x y hv hg hne (by omega)
  have hgd : w.drew.heap[g]? = some (.cells cur 137 (0, 0)) := hg
  have hcp1 : ∀ ty dc sc, (Builtin.copy_ #[129, 129] ty #[.slice (some ⟨g, (i + 1) * 2, none⟩) (n - i) dc, .slice (some ⟨g, i * 2, none⟩) (n + 1 - i) sc]).run Try.prog w.drew = .ok _ _ := fun ty dc sc =>
    run_copy_row w.drew 129 129 ty 137 i3 Try.underlying129 hi3 g ((i + 1) * 2) (n - i) dc cur 137 hgd ⟨g, i * 2, none⟩ (n + 1 - i) sc (xs.drop (i * 2)) (by rw [hdl, hs3]; simp only [Nat.min_def]; split <;> omega)
      (fun j v hj => by
        rw [show (⟨g, i * 2, none⟩ : Addr).add j = ⟨g, i * 2 + j, none⟩ by unfold Addr.add; split <;> simp_all]
        rw [List.getElem?_drop] at hj
        rw [← hxs, List.getElem?_take] at hj
        split at hj
        · show w.cell? _ = _
          rw [cell_of_row w g _ cur _ _ hg]
          simpa using hj
        · cases hj)
      (fun v hv => h1 v (List.mem_of_mem_drop hv)) (by rw [hdl]; omega)
  obtain ⟨row1, hrow1⟩ : ∃ row1, (cur.toList.take ((i + 1) * 2) ++ xs.drop (i * 2) ++ cur.toList.drop ((i + 1) * 2 + (xs.drop (i * 2)).length)).toArray = row1 := ⟨_, rfl⟩
  obtain ⟨W1, hW1⟩ : ∃ W1, w.drew.setRow g row1 = W1 := ⟨_, rfl⟩
  have hrow1s : row1.size = c * 2 := by rw [← hrow1]; simp [hdl]; omega
  have hg1 : W1.heap[g]? = some (.cells row1 137 (0, 0)) := by rw [← hW1]; exact setRow_heap w.drew g cur row1 _ _ hgd
  have hv1 : W1.heap[vb]? = some (.cells #[x, y] 137 (0, 0)) := by rw [← hW1]; exact (setRow_other w.drew g vb row1 hne).trans hv
  have gr1 : w.grownBy W1 (some g) := by rw [← hW1]; exact ⟨rfl, rfl, rfl, by simp [drew_heap], fun k hk hne' => setRow_other w.drew g k row1 (fun e => hne' (by rw [e]))⟩
  have hcp2 : ∀ ty dc, (Builtin.copy_ #[129, 129] ty #[.slice (some ⟨g, i * 2, none⟩) (n + 1 - i) dc, .slice (some ⟨vb, 0, none⟩) 1 1]).run Try.prog W1 = .ok _ _ := fun ty dc =>
    run_copy_row W1 129 129 ty 137 i3 Try.underlying129 hi3 g (i * 2) (n + 1 - i) dc row1 137 hg1 ⟨vb, 0, none⟩ 1 1 [x, y] (by rw [hs3]; simp only [Nat.min_def]; split <;> simp; omega)
      (World.news_of_block hv1) (by intro u hu; simp at hu; rcases hu with rfl | rfl <;> assumption) (by simp [hrow1s]; omega)
  have hfin : ∀ W2, W2.heap[g]? = some (.cells (row1.toList.take (i * 2) ++ [x, y] ++ row1.toList.drop (i * 2 + [x, y].length)).toArray 137 (0, 0)) → W1.grownBy W2 (some g) → RowPost w (.slice (some ⟨g, 0, none⟩) n c) (n + 1) (xs.take (i * 2) ++ [x, y] ++ xs.drop (i * 2)) (.returned (.slice (some ⟨g, 0, none⟩) (n + 1) c)) W2 := fun W2 h2 hgr => by
    refine ⟨_, rfl, ⟨by simp [hxl]; omega, .inr ⟨g, c, _, rfl, Nat.zero_le _, h2, hnc, by unfold maxLen; omega, by simp [hrow1s]; omega, ?_⟩⟩, gr1.trans hgr, .inl rfl⟩
    rw [← hrow1]
    exact row_list cur.toList n i x y xs hi hxs (by rw [Array.length_toList]; omega)
  have hs2 := setRow_heap W1 g row1 (row1.toList.take (i * 2) ++ [x, y] ++ row1.toList.drop (i * 2 + [x, y].length)).toArray _ _ hg1
  have HFIN := Lib.hid (hfin _ hs2 (grownBy_setRow W1 g _))
  obtain ⟨row2, hrow2⟩ : ∃ row2, (row1.toList.take (i * 2) ++ [x, y] ++ row1.toList.drop (i * 2 + [x, y].length)).toArray = row2 := ⟨_, rfl⟩
  rw [hrow2] at hcp2 HFIN
  rw [hrow1, hW1] at hcp1
  have HC1 := Lib.hid hcp1
  have HC2 := Lib.hid hcp2
  have b1 : (0 : Int) ≤ (i : Int) + 1 := by omega
  have b2 : ((i : Int) + 1).toNat = i + 1 := by omega
  have b3 : ¬ (c = i + 1) := by omega
  have b4 : ¬ (c = i) := by omega
  have b5 : (i : Int) ≤ (n : Int) := by omega
  have b6 : ¬ ((i : Int) = (n : Int)) := by omega
  have b7 : ¬ ((c : Int) < (n : Int) + 1) := by omega
  have b8 : (i : Int) + 1 ≤ (n : Int) + 1 := by omega
  have b9 : (i : Int) ≤ (n : Int) + 1 := by omega
  have w1 : IntKind.i64.wrap ((i : Int) + 1) = (i : Int) + 1 := by rw [IntKind.wrap_i64]; omega
  clear hfin hs2 hrow2 hg1 hv1 gr1 hrow1s hW1 hrow1 hcp1 hcp2 hgd hg hv hx hy hxs hcur h1 hxl hdl
  go_enter Try.func63, Try.ntmps63
  go_wp2_with (simp only [hov])
  go_region_law (refine step_copy_run rfl (.tmp 73) (.tmp 76) 129 129 rfl (.slice (some ⟨g, (i + 1) * 2, none⟩) (n - i) (c - (i + 1))) (.slice (some ⟨g, i * 2, none⟩) (n + 1 - i) (c - i)) (by simp [Act.eval, Act.put]) (by simp [Act.eval, Act.put]) (HC1.out _ _ _) ?_)
  go_wp2_with (with_reducible refine wpList_copy_run W1 rfl (.tmp 80) (.tmp 81) 129 129 rfl (.slice (some ⟨g, i * 2, none⟩) (n + 1 - i) (c - i)) (.slice (some ⟨vb, 0, none⟩) 1 1) rfl rfl (HC2.out _ _) ?_)
  go_ret
  exact HFIN.out

theorem grow_list (R xs : List Value) (n i G : Nat) (x y : Value) (hi : i < n) (hx : xs.length = n * 2) (hR : R.length = G * 2) (hG : n + 1 ≤ G) (h0 : R.take (i * 2) = xs.take (i * 2)) :
    (((R.take (i * 2) ++ [x, y] ++ R.drop (i * 2 + [x, y].length)).take ((i + 1) * 2) ++ xs.drop (i * 2) ++ (R.take (i * 2) ++ [x, y] ++ R.drop (i * 2 + [x, y].length)).drop ((i + 1) * 2 + (xs.drop (i * 2)).length))).take ((n + 1) * 2) = xs.take (i * 2) ++ [x, y] ++ xs.drop (i * 2) := by
  have e1 : (xs.take (i * 2)).length = i * 2 := by rw [List.length_take]; omega
  have e2 : (xs.take (i * 2) ++ [x, y]).length = (i + 1) * 2 := by simp [e1]; omega
  have e3 : (xs.take (i * 2) ++ [x, y] ++ R.drop (i * 2 + [x, y].length)).take ((i + 1) * 2) = xs.take (i * 2) ++ [x, y] := by
    rw [List.take_append_of_le_length (by rw [e2]; exact Nat.le_refl _), List.take_of_length_le (by rw [e2]; exact Nat.le_refl _)]
  rw [h0, e3]
  have e4 : (xs.take (i * 2) ++ [x, y] ++ xs.drop (i * 2)).length = (n + 1) * 2 := by rw [List.length_append, e2, List.length_drop]; omega
  rw [List.take_append_of_le_length (by rw [e4]; exact Nat.le_refl _), List.take_of_length_le (by rw [e4]; exact Nat.le_refl _)]

set_option maxHeartbeats 4000000 in
set_option maxRecDepth 100000 in
theorem lv_insert_grow (w : World) (g n c i : Nat) (cur : Array Value) (xs : List Value) (hg : w.heap[g]? = some (.cells cur 137 (0, 0))) (hcur : cur.size = c * 2) (hxs : cur.toList.take (n * 2) = xs) (hnc : n ≤ c) (hc : c < n + 1) (hi : i < n) (hn : n ≤ 65536) (h1 : ∀ u ∈ xs, u.oneCell' = true)
    (vb : Nat) (x y : Value) (hv : w.heap[vb]? = some (.cells #[x, y] 137 (0, 0))) (hx : x.oneCell' = true) (hy : y.oneCell' = true) :
    Calls Try.prog 63 #[.slice (some ⟨g, 0, none⟩) n c, .int .i64 i, .slice (some ⟨vb, 0, none⟩) 1 1] w (RowPost w (.slice (some ⟨g, 0, none⟩) n c) (n + 1) (xs.take (i * 2) ++ [x, y] ++ xs.drop (i * 2))) := by
  obtain ⟨i3, hi3, hz3, hs3, hb3⟩ := info_parts Try.infoLevel
  have hxl : xs.length = n * 2 := by rw [← hxs, List.length_take, Array.length_toList]; omega
  have hdl : (xs.drop (i * 2)).length = (n - i) * 2 := by rw [List.length_drop]; omega
  have htl : (xs.take (i * 2)).length = i * 2 := by rw [List.length_take]; omega
  have hgd : w.drew.heap[g]? = some (.cells cur 137 (0, 0)) := hg
  have hgw : g < w.heap.size := (Array.getElem?_eq_some_iff.1 hg).1
  have hvw : vb < w.heap.size := (Array.getElem?_eq_some_iff.1 hv).1
  have hcell : ∀ (W : World), W.heap[g]? = some (.cells cur 137 (0, 0)) → ∀ j v, xs[j]? = some v → W.cell? ⟨g, j, none⟩ = some v := fun W hW j v hj => by
    rw [← hxs, List.getElem?_take] at hj
    split at hj
    · rw [cell_of_row W g _ cur _ _ hW]; simpa using hj
    · cases hj
  have hold : (Builtin.firstCells i3.size i (.slice (some ⟨g, 0, none⟩) i c)).run Try.prog w.drew = .ok (xs.take (i * 2)).toArray w.drew := by
    rw [hs3]
    exact run_firstCells_some w.drew 2 i ⟨g, 0, none⟩ i c (xs.take (i * 2)) htl (fun j v hj => by
      rw [show (⟨g, 0, none⟩ : Addr).add j = ⟨g, j, none⟩ by unfold Addr.add; split <;> simp_all]
      rw [List.getElem?_take] at hj
      split at hj
      · exact hcell _ hgd j v hj
      · cases hj)
  have hik : i + (n + 1 - i) = n + 1 := by omega
  have hap : ∀ ty, (Builtin.append_ #[129, 3] ty #[.slice (some ⟨g, 0, none⟩) i c, .int .i64 ((n : Int) + 1 - (i : Int))]).run Try.prog w = .ok (.slice (some ⟨w.heap.size, 0, none⟩) (n + 1) (grownCap w (n + 1) c 137)) (w.drew.alloc (.cells ((xs.take (i * 2)).toArray ++ Builtin.zeroCells (Value.agg #[.int .i64 0, .int .i64 0]).cells (n + 1 - i) ++ Builtin.zeroCells (Value.agg #[.int .i64 0, .int .i64 0]).cells (grownCap w (n + 1) c 137 - (n + 1))) 137)) := fun ty => by
    have h := Lib.run_append_grow_zeros w 129 3 ty 137 i3 _ .i64 .i64 Try.underlying129 Try.underlying3 hi3 hz3 (some ⟨g, 0, none⟩) i c (xs.take (i * 2)) hold (n + 1 - i) (by omega) (by omega) (by omega) (by omega) (by rw [hb3]; omega) (by rw [hb3, hik]; exact growslice_fits (by omega) (by omega))
    rw [hik] at h
    rw [show (n : Int) + 1 - (i : Int) = ((n + 1 - i : Nat) : Int) by omega]
    exact h
  obtain ⟨G, hG⟩ : ∃ G, grownCap w (n + 1) c 137 = G := ⟨_, rfl⟩
  have hGn : n + 1 ≤ G := by rw [← hG]; exact grownCap_ge w _ _ _
  have hGm : G ≤ maxLen := by rw [← hG]; exact grownCap_le_maxLen w (n + 1) c 137 (by unfold maxLen; omega)
  have hG63 : G ≤ 9223372036854775807 := by unfold maxLen at hGm; omega
  obtain ⟨ROW, hROW⟩ : ∃ ROW : Array Value, (xs.take (i * 2)).toArray ++ Builtin.zeroCells (Value.agg #[.int .i64 0, .int .i64 0]).cells (n + 1 - i) ++ Builtin.zeroCells (Value.agg #[.int .i64 0, .int .i64 0]).cells (G - (n + 1)) = ROW := ⟨_, rfl⟩
  have hRs : ROW.size = G * 2 := by
    rw [← hROW]
    simp only [Array.size_append, size_zeroCells, List.size_toArray, htl]
    show i * 2 + (n + 1 - i) * 2 + (G - (n + 1)) * 2 = G * 2
    omega
  have hR0 : ROW.toList.take (i * 2) = xs.take (i * 2) := by
    rw [← hROW]
    simp only [Array.toList_append, List.append_assoc]
    rw [List.take_append_of_le_length (by simp [htl]), List.take_of_length_le (by simp [htl])]
  simp only [hG, hROW] at hap
  obtain ⟨W1, hW1⟩ : ∃ W1, w.drew.alloc (.cells ROW 137) = W1 := ⟨_, rfl⟩
  have hB1 : W1.heap[w.heap.size]? = some (.cells ROW 137 (0, 0)) := by rw [← hW1]; exact heap_alloc_new w.drew _
  have hv1 : W1.heap[vb]? = some (.cells #[x, y] 137 (0, 0)) := by rw [← hW1]; exact (Below.heap_alloc w.drew _ _ hvw).trans hv
  have hg1 : W1.heap[g]? = some (.cells cur 137 (0, 0)) := by rw [← hW1]; exact (Below.heap_alloc w.drew _ _ hgw).trans hg
  have gr1 : w.grownBy W1 none := by rw [← hW1]; exact ⟨rfl, rfl, rfl, by simp [drew_heap], fun k hk _ => Below.heap_alloc w.drew _ k hk⟩
  rw [hW1] at hap
  have hcp2 : ∀ ty dc, (Builtin.copy_ #[129, 129] ty #[.slice (some ⟨w.heap.size, i * 2, none⟩) (n + 1 - i) dc, .slice (some ⟨vb, 0, none⟩) 1 1]).run Try.prog W1 = .ok _ _ := fun ty dc =>
    run_copy_row W1 129 129 ty 137 i3 Try.underlying129 hi3 w.heap.size (i * 2) (n + 1 - i) dc ROW 137 hB1 ⟨vb, 0, none⟩ 1 1 [x, y] (by rw [hs3]; simp only [Nat.min_def]; split <;> simp; omega)
      (World.news_of_block hv1) (by intro u hu; simp at hu; rcases hu with rfl | rfl <;> assumption) (by simp [hRs]; omega)
  obtain ⟨row2, hrow2⟩ : ∃ row2, (ROW.toList.take (i * 2) ++ [x, y] ++ ROW.toList.drop (i * 2 + [x, y].length)).toArray = row2 := ⟨_, rfl⟩
  have hr2s : row2.size = G * 2 := by rw [← hrow2]; simp [hRs]; omega
  rw [hrow2] at hcp2
  obtain ⟨W2, hW2⟩ : ∃ W2, W1.setRow w.heap.size row2 = W2 := ⟨_, rfl⟩
  have hne : g ≠ w.heap.size := by omega
  have hB2 : W2.drew.heap[w.heap.size]? = some (.cells row2 137 (0, 0)) := by rw [← hW2]; exact setRow_heap W1 w.heap.size ROW row2 _ _ hB1
  have hg2 : W2.drew.heap[g]? = some (.cells cur 137 (0, 0)) := by rw [← hW2]; exact (setRow_other W1 w.heap.size g row2 hne).trans hg1
  have gr2 : w.grownBy W2.drew none := by rw [← hW2]; exact ⟨gr1.os, gr1.tape, gr1.output, by simpa [drew_heap] using gr1.size, fun k hk hn => (setRow_other W1 w.heap.size k row2 (by omega)).trans (gr1.block k hk hn)⟩
  rw [hW2] at hcp2
  have hcp3 : ∀ ty dc sc, (Builtin.copy_ #[129, 129] ty #[.slice (some ⟨w.heap.size, (i + 1) * 2, none⟩) (n - i) dc, .slice (some ⟨g, i * 2, none⟩) (n - i) sc]).run Try.prog W2.drew = .ok _ _ := fun ty dc sc =>
    run_copy_row W2.drew 129 129 ty 137 i3 Try.underlying129 hi3 w.heap.size ((i + 1) * 2) (n - i) dc row2 137 hB2 ⟨g, i * 2, none⟩ (n - i) sc (xs.drop (i * 2)) (by rw [hdl, hs3, show Nat.min (n - i) (n - i) = n - i from Nat.min_self _])
      (fun j v hj => by
        rw [show (⟨g, i * 2, none⟩ : Addr).add j = ⟨g, i * 2 + j, none⟩ by unfold Addr.add; split <;> simp_all]
        rw [List.getElem?_drop] at hj
        exact hcell _ hg2 _ v hj)
      (fun v hv => h1 v (List.mem_of_mem_drop hv)) (by rw [hdl, hr2s]; omega)
  obtain ⟨row3, hrow3⟩ : ∃ row3, (row2.toList.take ((i + 1) * 2) ++ xs.drop (i * 2) ++ row2.toList.drop ((i + 1) * 2 + (xs.drop (i * 2)).length)).toArray = row3 := ⟨_, rfl⟩
  rw [hrow3] at hcp3
  have hfin : RowPost w (.slice (some ⟨g, 0, none⟩) n c) (n + 1) (xs.take (i * 2) ++ [x, y] ++ xs.drop (i * 2)) (.returned (.slice (some ⟨w.heap.size, 0, none⟩) (n + 1) G)) (W2.drew.setRow w.heap.size row3) := by
    refine ⟨_, rfl, ⟨by simp [hxl]; omega, .inr ⟨w.heap.size, G, row3, rfl, Nat.zero_le _, setRow_heap W2.drew w.heap.size row2 row3 _ _ hB2, hGn, hGm, by rw [← hrow3]; simp [hr2s, hdl]; omega, ?_⟩⟩, ⟨gr2.os, gr2.tape, gr2.output, by simpa using gr2.size, fun k hk hn => (setRow_other W2.drew w.heap.size k row3 (by omega)).trans (gr2.block k hk (by simp))⟩, .inr rfl⟩
    rw [← hrow3, ← hrow2]
    exact grow_list ROW.toList xs n i G x y hi hxl (by rw [Array.length_toList]; exact hRs) hGn hR0
  have HFIN := Lib.hid hfin
  have HAP := Lib.hid hap
  have HC2 := Lib.hid hcp2
  have HC3 := Lib.hid hcp3
  have b1 : (0 : Int) ≤ (i : Int) + 1 := by omega
  have b2 : ((i : Int) + 1).toNat = i + 1 := by omega
  have b3 : ¬ (G = i + 1) := by omega
  have b4 : ¬ (c = i) := by omega
  have b4' : ¬ (G = i) := by omega
  have b5 : (i : Int) ≤ (n : Int) := by omega
  have b6 : ¬ ((i : Int) = (n : Int)) := by omega
  have b7 : (c : Int) < (n : Int) + 1 := by omega
  have b8 : (i : Int) + 1 ≤ (n : Int) + 1 := by omega
  have b9 : (i : Int) ≤ (n : Int) + 1 := by omega
  have b10 : (i : Int) ≤ (c : Int) := by omega
  have w1 : IntKind.i64.wrap ((i : Int) + 1) = (i : Int) + 1 := by rw [IntKind.wrap_i64]; omega
  clear hfin hap hcp2 hcp3 hrow3 hrow2 gr2 gr1 hg2 hB2 hW2 hg1 hv1 hB1 hW1 hR0 hRs hROW hGm hold hcell hgd hg hv hx hy hxs hcur h1 hxl hdl htl hr2s hG
  go_enter Try.func63, Try.ntmps63
  go_wp2_with (first
    | (with_reducible refine wpList_append_run2 w rfl (.tmp 34) (.tmp 39) 129 3 rfl (.slice (some ⟨g, 0, none⟩) i c) (.int .i64 ((n : Int) + 1 - (i : Int))) rfl rfl (HAP.out _) ?_)
    | (with_reducible refine wpList_copy_run W1 rfl (.tmp 43) (.tmp 44) 129 129 rfl (.slice (some ⟨w.heap.size, i * 2, none⟩) (n + 1 - i) (G - i)) (.slice (some ⟨vb, 0, none⟩) 1 1) rfl rfl (HC2.out _ _) ?_))
  go_region_law (refine step_copy_run rfl (.tmp 50) (.tmp 53) 129 129 rfl (.slice (some ⟨w.heap.size, (i + 1) * 2, none⟩) (n - i) (G - (i + 1))) (.slice (some ⟨g, i * 2, none⟩) (n - i) (c - i)) (by simp [Act.eval, Act.put]) (by simp [Act.eval, Act.put]) (HC3.out _ _ _) ?_)
  go_wp2
  go_ret
  exact HFIN.out
end Go.Proofs.Ytilngakgofjmpaa

/- Levels: the library's Delete over rows of prices, walked; Insert, whatever the room. Conditions: a row of one's own. -/
namespace Go.Proofs.Ytilngakgofjmpaa
set_option linter.unusedVariables false
set_option linter.unusedSimpArgs false
open Go.RowKit

theorem lv_insert (w : World) (v : Value) (n i : Nat) (xs : List Value) (hown : w.ownsRow 0 137 2 v n xs) (hn : n ≤ 65536) (hi : i ≤ n) (h1 : ∀ u ∈ xs, u.oneCell' = true) (vb : Nat) (x y : Value) (hv : w.heap[vb]? = some (.cells #[x, y] 137 (0, 0))) (hx : x.oneCell' = true) (hy : y.oneCell' = true) (hne : v.ownBlock ≠ some vb) :
    Calls Try.prog 63 #[v, .int .i64 i, .slice (some ⟨vb, 0, none⟩) 1 1] w (RowPost w v (n + 1) (xs.take (i * 2) ++ [x, y] ++ xs.drop (i * 2))) := by
  have hxl := hown.1
  by_cases hin : i = n
  · subst hin
    rw [List.take_of_length_le (by omega), List.drop_eq_nil_of_le (by omega), List.append_nil]
    exact lv_insert_end w v i xs hown hn vb x y hv hx hy
  · rcases hown.2 with ⟨rfl, h0⟩ | ⟨g, c, cur, rfl, _, hg, hnc, hc, hcs, hct⟩
    · omega
    · have hne' : vb ≠ g := fun e => hne (by rw [e]; rfl)
      by_cases hr : n + 1 ≤ c
      · exact lv_insert_shift w g n c i cur xs hg hcs hct hr (by unfold maxLen at hc; omega) (by omega) hn h1 vb x y hv hx hy hne'
      · exact lv_insert_grow w g n c i cur xs hg hcs hct hnc (by omega) (by omega) hn h1 vb x y hv hx hy

theorem del_list (cur xs : List Value) (n i : Nat) (zs : List Value) (hi : i < n) (hx : cur.take (n * 2) = xs) (hl : n * 2 ≤ cur.length) :
    ((cur.take (i * 2) ++ xs.drop ((i + 1) * 2) ++ cur.drop (i * 2 + (xs.drop ((i + 1) * 2)).length)).take ((n - 1) * 2) ++ zs ++ (cur.take (i * 2) ++ xs.drop ((i + 1) * 2) ++ cur.drop (i * 2 + (xs.drop ((i + 1) * 2)).length)).drop ((n - 1) * 2 + zs.length)).take ((n - 1) * 2) = xs.take (i * 2) ++ xs.drop ((i + 1) * 2) := by
  have hxl : xs.length = n * 2 := by rw [← hx, List.length_take]; omega
  have e0 : (cur.take (i * 2)) = xs.take (i * 2) := by rw [← hx, List.take_take]; congr 1; omega
  have e1 : (xs.take (i * 2) ++ xs.drop ((i + 1) * 2)).length = (n - 1) * 2 := by simp [hxl]; omega
  have e2 : (cur.take (i * 2) ++ xs.drop ((i + 1) * 2) ++ cur.drop (i * 2 + (xs.drop ((i + 1) * 2)).length)).take ((n - 1) * 2) = xs.take (i * 2) ++ xs.drop ((i + 1) * 2) := by
    rw [e0, List.take_append_of_le_length (by rw [e1]; exact Nat.le_refl _), List.take_of_length_le (by rw [e1]; exact Nat.le_refl _)]
  rw [e2, List.append_assoc (xs.take (i * 2) ++ xs.drop ((i + 1) * 2)), List.take_append_of_le_length (by rw [e1]; exact Nat.le_refl _), List.take_of_length_le (by rw [e1]; exact Nat.le_refl _)]

set_option maxHeartbeats 4000000 in
set_option maxRecDepth 100000 in
theorem lv_delete (w : World) (v : Value) (n i : Nat) (xs : List Value) (hown : w.ownsRow 0 137 2 v n xs) (hn : n ≤ 65536) (hi : i < n) (h1 : ∀ u ∈ xs, u.oneCell' = true) :
    Calls Try.prog 64 #[v, .int .i64 i, .int .i64 ((i : Int) + 1)] w (RowPost w v (n - 1) (xs.take (i * 2) ++ xs.drop ((i + 1) * 2))) := by
  rcases hown.2 with ⟨rfl, h0⟩ | ⟨g, c, cur, rfl, _, hg, hnc, hc, hcs, hct⟩
  · omega
  obtain ⟨i3, hi3, hz3, hs3, hb3⟩ := info_parts Try.infoLevel
  have hxl := hown.1
  have hdl : (xs.drop ((i + 1) * 2)).length = (n - (i + 1)) * 2 := by rw [List.length_drop]; omega
  have hgd : w.drew.heap[g]? = some (.cells cur 137 (0, 0)) := hg
  have hsrc : ∃ A, (if c = i + 1 then some (⟨g, 0, none⟩ : Addr) else some ⟨g, (i + 1) * 2, none⟩) = some A ∧ ∀ j u, (xs.drop ((i + 1) * 2))[j]? = some u → w.drew.cell? (A.add j) = some u := by
    by_cases e : c = i + 1
    · refine ⟨_, if_pos e, fun j u hu => ?_⟩
      have := (List.getElem?_eq_some_iff.1 hu).1
      rw [hdl] at this; omega
    · refine ⟨_, if_neg e, fun j u hu => ?_⟩
      rw [show (⟨g, (i + 1) * 2, none⟩ : Addr).add j = ⟨g, (i + 1) * 2 + j, none⟩ by unfold Addr.add; split <;> simp_all]
      rw [List.getElem?_drop, ← hct, List.getElem?_take] at hu
      split at hu
      · rw [cell_of_row w.drew g _ cur _ _ hgd]; simpa using hu
      · cases hu
  obtain ⟨A, hA, hsrc⟩ := hsrc
  have hap := fun ty => run_append_room (P := Try.prog) (w := w.drew) 129 ty 137 i3 Try.underlying129 hi3 g i c cur hgd A (n - (i + 1)) (c - (i + 1)) (xs.drop ((i + 1) * 2)) (by rw [hdl, hs3]) hsrc (fun v hv => h1 v (List.mem_of_mem_drop hv)) (by omega) (by rw [hdl, hs3]; omega)
  rw [hs3] at hap
  obtain ⟨row1, hrow1⟩ : ∃ row1, (cur.toList.take (i * 2) ++ xs.drop ((i + 1) * 2) ++ cur.toList.drop (i * 2 + (xs.drop ((i + 1) * 2)).length)).toArray = row1 := ⟨_, rfl⟩
  have hr1s : row1.size = c * 2 := by rw [← hrow1]; simp [hdl]; omega
  obtain ⟨W1, hW1⟩ : ∃ W1, w.drew.setRow g row1 = W1 := ⟨_, rfl⟩
  have hg1 : W1.heap[g]? = some (.cells row1 137 (0, 0)) := by rw [← hW1]; exact setRow_heap w.drew g cur row1 _ _ hgd
  have gr1 : w.grownBy W1 (some g) := by rw [← hW1]; exact ⟨rfl, rfl, rfl, by simp [drew_heap], fun k hk hne' => setRow_other w.drew g k row1 (fun e => hne' (by rw [e]))⟩
  simp only [hrow1, hW1, show i + (n - (i + 1)) = n - 1 by omega] at hap
  have hzl : (Builtin.zeroCells (Value.agg #[.int .i64 0, .int .i64 0]).cells 1).size = 2 := by kernel_rfl
  have hcl := fun ty sc => run_clear_row (P := Try.prog) W1 129 ty 137 i3 _ Try.underlying129 hi3 hz3 g ((n - 1) * 2) 1 sc (by decide) row1 137 hg1 (by decide +kernel) (by rw [hzl]; omega)
  rw [hzl] at hcl
  obtain ⟨zs, hzs⟩ : ∃ zs, (Builtin.zeroCells (Value.agg #[.int .i64 0, .int .i64 0]).cells 1).toList = zs := ⟨_, rfl⟩
  have hzsl : zs.length = 2 := by rw [← hzs, Array.length_toList]; exact hzl
  obtain ⟨row2, hrow2⟩ : ∃ row2, (row1.toList.take ((n - 1) * 2) ++ zs ++ row1.toList.drop ((n - 1) * 2 + 2)).toArray = row2 := ⟨_, rfl⟩
  simp only [hzs, hrow2] at hcl
  have hfin : RowPost w (.slice (some ⟨g, 0, none⟩) n c) (n - 1) (xs.take (i * 2) ++ xs.drop ((i + 1) * 2)) (.returned (.slice (some ⟨g, 0, none⟩) (n - 1) c)) (W1.setRow g row2) := by
    refine ⟨_, rfl, ⟨by simp [hxl]; omega, .inr ⟨g, c, row2, rfl, Nat.zero_le _, setRow_heap W1 g row1 row2 _ _ hg1, by omega, hc, by rw [← hrow2]; simp [hr1s, hzsl]; omega, ?_⟩⟩, gr1.trans (grownBy_setRow W1 g row2), .inl rfl⟩
    have hdel := del_list cur.toList xs n i zs hi hct (by rw [Array.length_toList]; omega)
    rw [hzsl] at hdel
    rw [← hrow2, ← hrow1]
    exact hdel
  have HFIN := Lib.hid hfin
  have HAP := Lib.hid hap
  have HCL := Lib.hid hcl
  have b0 : (0 : Int) ≤ (i : Int) + 1 := by omega
  have b2 : ((i : Int) + 1).toNat = i + 1 := by omega
  have b3 : (i : Int) + 1 ≤ (n : Int) := by omega
  have b4 : (i : Int) ≤ (i : Int) + 1 := by omega
  have b5 : (i : Int) ≤ (c : Int) := by omega
  have b6 : ((i : Int) == (i : Int) + 1) = false := by simp; omega
  have b7 : (n : Int) ≤ (c : Int) := by omega
  have b8 : (i : Int) + 1 ≤ (c : Int) := by omega
  have b9 : ((n - 1 : Nat) : Int) ≤ (n : Int) := by omega
  have b10 : n - (n - 1) = 1 := by omega
  have b11 : ¬ (c = n - 1) := by omega
  have hc63 : c ≤ 9223372036854775807 := by unfold maxLen at hc; omega
  clear hfin hap hcl hrow2 hrow1 hW1 hg1 gr1 hgd hg hcs hct h1 hxl hdl hsrc hzs hzl hzsl hr1s hc hown
  go_enter Try.func64, Try.ntmps64
  go_wp2_with fail
  go_region_law (refine step_append_run2 rfl (.tmp 22) (.tmp 25) 129 129 rfl (.slice (some ⟨g, 0, none⟩) i c) (.slice (some A) (n - (i + 1)) (c - (i + 1))) (by simp [Act.eval, Act.put]) (by simp [Act.eval, Act.put, hA]) (HAP.out _) ?_)
  go_wp2_with (with_reducible refine wpList_clear_run W1 rfl (.tmp 31) 129 rfl (.slice (some ⟨g, (n - 1) * 2, none⟩) 1 (c - (n - 1))) rfl (HCL.out _ _) ?_)
  go_ret
  exact HFIN.out
end Go.Proofs.Ytilngakgofjmpaa

/- Levels: a side's prices in memory; where a price stands. Conditions: a side as its New lays it, its prices from better to worse. -/
namespace Go.Proofs.Ytilngakgofjmpaa
set_option linter.unusedVariables false
set_option linter.unusedSimpArgs false
open Go.RowKit

/-- A side's cells. -/
def lvV (l : List (Int × Nat)) : List Value := l.flatMap fun x => [Value.int .i64 x.1, Value.int .i64 (x.2 : Int)]
theorem lvV_append (l m : List (Int × Nat)) : lvV (l ++ m) = lvV l ++ lvV m := by simp [lvV]
theorem lvV_length (l : List (Int × Nat)) : (lvV l).length = l.length * 2 := by
  induction l with
  | nil => rfl
  | cons x t ih => simp only [lvV, List.flatMap_cons, List.length_append, List.length_cons, List.length_nil] at ih ⊢; omega
theorem lvV_at {l : List (Int × Nat)} {i : Nat} {x : Int × Nat} (h : l[i]? = some x) : (lvV l)[i * 2]? = some (.int .i64 x.1) ∧ (lvV l)[i * 2 + 1]? = some (.int .i64 (x.2 : Int)) := by
  induction l generalizing i with
  | nil => simp at h
  | cons y t ih =>
    cases i with
    | zero => simp at h; subst h; exact ⟨rfl, rfl⟩
    | succ i =>
      have := ih (i := i) (by simpa using h)
      rw [show (i + 1) * 2 = i * 2 + 2 by omega]
      exact this
theorem lvV_one (l : List (Int × Nat)) : ∀ u ∈ lvV l, u.oneCell' = true := by
  intro u hu
  obtain ⟨n, _, hu⟩ := List.mem_flatMap.1 hu
  simp at hu
  rcases hu with rfl | rfl <;> rfl
theorem lvV_take (l : List (Int × Nat)) (k : Nat) : lvV (l.take k) = (lvV l).take (k * 2) := by
  induction l generalizing k with
  | nil => simp [lvV]
  | cons x t ih =>
    cases k with
    | zero => simp [lvV]
    | succ k =>
      have e : lvV (x :: t) = Value.int .i64 x.1 :: Value.int .i64 (x.2 : Int) :: lvV t := rfl
      have e2 : lvV ((x :: t).take (k + 1)) = Value.int .i64 x.1 :: Value.int .i64 (x.2 : Int) :: lvV (t.take k) := rfl
      rw [e, e2, ih, show (k + 1) * 2 = k * 2 + 1 + 1 by omega]; rfl
theorem lvV_drop (l : List (Int × Nat)) (k : Nat) : lvV (l.drop k) = (lvV l).drop (k * 2) := by
  induction l generalizing k with
  | nil => simp [lvV]
  | cons x t ih =>
    cases k with
    | zero => simp [lvV]
    | succ k =>
      have e : lvV (x :: t) = Value.int .i64 x.1 :: Value.int .i64 (x.2 : Int) :: lvV t := rfl
      rw [e, List.drop_succ_cons, ih, show (k + 1) * 2 = k * 2 + 1 + 1 by omega]; rfl

/-! ### The plain side -/
/-- From better to worse. -/
def Srt (sg : Int) (l : List (Int × Nat)) : Prop := l.Pairwise fun x y => sg * x.1 < sg * y.1
/-- How many are better. -/
def pos (sg p : Int) : List (Int × Nat) → Nat
  | [] => 0
  | x :: t => if sg * x.1 < sg * p then pos sg p t + 1 else 0
/-- Is a price there? -/
def has (p : Int) (l : List (Int × Nat)) : Bool := l.any fun x => x.1 == p
theorem pos_le (sg p : Int) (l : List (Int × Nat)) : pos sg p l ≤ l.length := by
  induction l with
  | nil => simp [pos]
  | cons x t ih => simp only [pos]; split <;> simp <;> omega
theorem pos_lt {sg p : Int} {l : List (Int × Nat)} (hs : Srt sg l) {j : Nat} {x : Int × Nat} (h : l[j]? = some x) : j < pos sg p l ↔ sg * x.1 < sg * p := by
  induction l generalizing j with
  | nil => simp at h
  | cons y t ih =>
    have hs2 := List.pairwise_cons.1 hs
    simp only [pos]
    cases j with
    | zero =>
      simp at h; subst h
      split
      · simp; assumption
      · simp; omega
    | succ j =>
      have h : t[j]? = some x := by simpa using h
      have hy := hs2.1 x (List.mem_of_getElem? h)
      have := ih hs2.2 h
      split
      · rw [← this]; omega
      · constructor
        · intro h; omega
        · intro h; omega
theorem sg_inj {sg a b : Int} (hsg : sg = 1 ∨ sg = -1) (h : sg * a = sg * b) : a = b := by rcases hsg with rfl | rfl <;> omega
theorem has_iff {p : Int} {l : List (Int × Nat)} : has p l = true ↔ ∃ x ∈ l, x.1 = p := by simp [has]
/-- A price that is there stands at its place. -/
theorem has_pos {sg p : Int} {l : List (Int × Nat)} (hsg : sg = 1 ∨ sg = -1) (hs : Srt sg l) {j : Nat} {x : Int × Nat} (h : l[j]? = some x) (hx : x.1 = p) : j = pos sg p l := by
  have h1 := pos_lt (p := p) hs h
  rw [hx] at h1
  have h2 : ¬ j < pos sg p l := fun h => by have := h1.1 h; omega
  rcases Nat.lt_or_ge (pos sg p l) j with h3 | h3
  · have hjl := (List.getElem?_eq_some_iff.1 h).1
    obtain ⟨y, hy⟩ : ∃ y, l[pos sg p l]? = some y := ⟨_, List.getElem?_eq_getElem (by omega)⟩
    have h4 := pos_lt (p := p) hs hy
    have h5 : ¬ (sg * y.1 < sg * p) := fun h => by have := h4.2 h; omega
    have h6 : sg * y.1 < sg * x.1 := by
      have hp := List.pairwise_iff_getElem.1 hs (pos sg p l) j (by omega) hjl h3
      rw [(List.getElem?_eq_some_iff.1 hy).2, (List.getElem?_eq_some_iff.1 h).2] at hp
      exact hp
    rw [hx] at h6
    omega
  · omega
theorem has_at {sg p : Int} {l : List (Int × Nat)} (hsg : sg = 1 ∨ sg = -1) (hs : Srt sg l) : has p l = true ↔ ∃ x, l[pos sg p l]? = some x ∧ x.1 = p := by
  rw [has_iff]
  constructor
  · rintro ⟨x, hx, e⟩
    obtain ⟨j, hj⟩ := List.mem_iff_getElem?.1 hx
    have := has_pos hsg hs hj e
    exact ⟨x, this ▸ hj, e⟩
  · rintro ⟨x, hx, e⟩
    exact ⟨x, List.mem_of_getElem? hx, e⟩

/-- The comparison of the search. -/
def cmpV (sg x p : Int) : Int := if x = p then 0 else if sg * x < sg * p then -1 else 1

/-- A side lies at b, its marks at gu, its row is hv. -/
structure SideU (w : World) (b gu most : Nat) (sg : Int) (hv : Value) (L : List (Int × Nat)) (U : Nat → Bool) : Prop where
  c0 : Cell w b 0 (.int .i64 sg)
  c1 : Cell w b 1 hv
  c2 : Cell w b 2 (.slice (some ⟨gu, 0, none⟩) most most)
  us : ∀ n, n < most → Cell w gu n (.bool (U n))
  own : w.ownsRow 0 137 2 hv L.length (lvV L)
  sep : ∀ g, hv.ownBlock = some g → g ≠ b ∧ g ≠ gu
  ne : b ≠ gu
  hsg : sg = 1 ∨ sg = -1
  srt : Srt sg L
  nd : (L.map Prod.snd).Nodup
  lt : ∀ x ∈ L, x.2 < most
  pr : ∀ x ∈ L, 1 ≤ x.1 ∧ x.1 ≤ 1000000000
  len : L.length ≤ most
  small : most ≤ 128
  gul : gu < w.heap.size

/-- Which rows are prices'. -/
def rowB (L : List (Int × Nat)) (n : Nat) : Bool := decide (n ∈ L.map Prod.snd)
/-- Its marks tell which rows are prices'. -/
abbrev SideAt (w : World) (b gu most : Nat) (sg : Int) (hv : Value) (L : List (Int × Nat)) : Prop := SideU w b gu most sg hv L (rowB L)

/-- The blocks of a side. -/
def SdB (b gu : Nat) (hv : Value) (i : Nat) : Prop := i = b ∨ i = gu ∨ hv.ownBlock = some i

section
variable {w : World} {b gu most : Nat} {sg : Int} {hv : Value} {L : List (Int × Nat)}
theorem SideU.blk {U : Nat → Bool} (h : SideU w b gu most sg hv L U) (i : Nat) (hi : SdB b gu hv i) : i < w.heap.size := by
  rcases hi with rfl | rfl | e
  · exact h.c0.lt
  · exact h.gul
  · exact (h.own.lt i e).2
theorem SideU.only {U : Nat → Bool} {w' : World} (h : SideU w b gu most sg hv L U) {S : Nat → Prop} (ho : Only S w w') (hS : ∀ i, SdB b gu hv i → ¬ S i) : SideU w' b gu most sg hv L U := by
  have hb := hS b (.inl rfl); have hu := hS gu (.inr (.inl rfl))
  refine ⟨h.c0.only ho hb, h.c1.only ho hb, h.c2.only ho hb, fun n hn => (h.us n hn).only ho hu, ?_, h.sep, h.ne, h.hsg, h.srt, h.nd, h.lt, h.pr, h.len, h.small, Nat.lt_of_lt_of_le h.gul ho.size⟩
  refine ⟨h.own.1, ?_⟩
  rcases h.own.2 with hn | ⟨g, cap, cur, rfl, hb, hgg, rest⟩
  · exact .inl hn
  · exact .inr ⟨g, cap, cur, rfl, hb, (ho.block g (Array.getElem?_eq_some_iff.1 hgg).1 (hS g (.inr (.inr rfl)))).trans hgg, rest⟩

theorem SideU.at_ {U : Nat → Bool} (h : SideU w b gu most sg hv L U) {k : Nat} {x : Int × Nat} (hk : L[k]? = some x) :
    ∃ g cap, hv = .slice (some ⟨g, 0, none⟩) L.length cap ∧ L.length ≤ cap ∧ g < w.heap.size ∧ Cell w g (k * 2) (.int .i64 x.1) ∧ Cell w g (k * 2 + 1) (.int .i64 (x.2 : Int)) := by
  have hlt := (List.getElem?_eq_some_iff.1 hk).1
  obtain ⟨g, cap, e, h0, h1, h2, h3⟩ := own_cell h.own (by omega)
  obtain ⟨t1, t2⟩ := lvV_at hk
  exact ⟨g, cap, e, h0, h2, h3 _ _ t1, h3 _ _ t2⟩

/-- One mark is written anew. -/
theorem SideU.mark {U : Nat → Bool} (h : SideU w b gu most sg hv L U) (n : Nat) (q : Bool) : SideU (w.setCell ⟨gu, n, none⟩ (.bool q)) b gu most sg hv L (fun k => if k = n then q else U k) := by
  have ho := (Only.refl (· = gu) w).setCell (p := ⟨gu, n, none⟩) (.inl rfl) (.bool q)
  have hne := h.ne
  refine ⟨h.c0.only ho hne, h.c1.only ho hne, h.c2.only ho hne, fun k hk => ?_, ?_, h.sep, h.ne, h.hsg, h.srt, h.nd, h.lt, h.pr, h.len, h.small, Nat.lt_of_lt_of_le h.gul ho.size⟩
  · by_cases e : k = n
    · subst e; rw [if_pos rfl]; exact (h.us k hk).set _
    · rw [if_neg e]; exact (h.us k hk).far (off_ne (fun e' => e e'.symm)) _
  · refine ⟨h.own.1, ?_⟩
    rcases h.own.2 with hn | ⟨g, cap, cur, e, hb, hgg, rest⟩
    · exact .inl hn
    · exact .inr ⟨g, cap, cur, e, hb, (ho.block g (Array.getElem?_eq_some_iff.1 hgg).1 (h.sep g (by rw [e]; rfl)).2).trans hgg, rest⟩

/-- The row is another one, and its cell tells so. -/
theorem SideU.row {U U' : Nat → Bool} (h : SideU w b gu most sg hv L U) {w' : World} {v' : Value} {L' : List (Int × Nat)} (ho : Only (fun i => hv.ownBlock = some i) w w') (hown : w'.ownsRow 0 137 2 v' L'.length (lvV L'))
    (hloc : v'.ownBlock = hv.ownBlock ∨ ∃ g, v'.ownBlock = some g ∧ w.heap.size ≤ g) (hU : ∀ n, n < most → U n = U' n) (srt : Srt sg L') (nd : (L'.map Prod.snd).Nodup) (lt : ∀ x ∈ L', x.2 < most) (pr : ∀ x ∈ L', 1 ≤ x.1 ∧ x.1 ≤ 1000000000) (len : L'.length ≤ most) :
    SideU (w'.setCell ⟨b, 1, none⟩ v') b gu most sg v' L' U' ∧ Only (SdB b gu hv) w (w'.setCell ⟨b, 1, none⟩ v') ∧ (v'.ownBlock = hv.ownBlock ∨ ∃ g, v'.ownBlock = some g ∧ w.heap.size ≤ g) := by
  have hb := h.c0.lt
  have hgu := h.gul
  have sb : ¬ hv.ownBlock = some b := fun e => (h.sep b e).1 rfl
  have su : ¬ hv.ownBlock = some gu := fun e => (h.sep gu e).2 rfl
  have o3 := (Only.refl (· = b) w').setCell (p := ⟨b, 1, none⟩) (.inl rfl) v'
  have sep' : ∀ g, v'.ownBlock = some g → g ≠ b ∧ g ≠ gu := fun g e => by
    rcases hloc with e' | ⟨g', e', hg'⟩
    · exact h.sep g (e' ▸ e)
    · rw [e'] at e; injection e with e; omega
  refine ⟨⟨?_, ?_, ?_, fun n hn => ?_, ?_, sep', h.ne, h.hsg, srt, nd, lt, pr, len, h.small, Nat.lt_of_lt_of_le h.gul (Nat.le_trans ho.size o3.size)⟩, (ho.mono fun i _ e => .inr (.inr e)).setCell (.inl (.inl rfl)) v', hloc⟩
  · exact (h.c0.only ho sb).far (off_ne (by omega)) _
  · exact (h.c1.only ho sb).set v'
  · exact (h.c2.only ho sb).far (off_ne (by omega)) _
  · rw [← hU n hn]; exact ((h.us n hn).only ho su).only o3 (fun e => h.ne e.symm)
  · refine ⟨hown.1, ?_⟩
    rcases hown.2 with hn | ⟨g, cap, cur, e, hb', hgg, rest⟩
    · exact .inl hn
    · exact .inr ⟨g, cap, cur, e, hb', (o3.block g (Array.getElem?_eq_some_iff.1 hgg).1 (sep' g (by rw [e]; rfl)).1).trans hgg, rest⟩

set_option maxHeartbeats 1000000 in
/-- The closure of the search. -/
theorem s_cmp (h : SideAt w b gu most sg hv L) (x p : Int) (r : Nat) (bs : Nat) (hbs : w.cell? ⟨bs, 0, none⟩ = some (.pointer (some ⟨b, 0, none⟩))) :
    Calls Try.prog 123 #[.agg #[.int .i64 x, .int .i64 (r : Int)], .int .i64 p, .pointer (some ⟨bs, 0, none⟩)] w fun e w' => e = .returned (.int .i64 (cmpV sg x p)) ∧ Only (fun _ => False) w w' := by
  have c0 := h.c0.cell
  have hsg := h.hsg
  have z0 := cell_lt c0
  have z1 := cell_lt hbs
  clear h
  unfold cmpV
  by_cases e1 : x = p
  · subst e1
    have t1 : (x == x) = true := by simp
    rw [if_pos rfl]
    go_enter Try.func123, Try.ntmps123
    go_wp2_with fail
    go_returns
    exact ⟨rfl, by repeat' (first | (with_reducible exact Only.refl _ _) | (with_reducible assumption) | (refine Only.of_none ?_; with_reducible assumption) | (with_reducible refine Only.drewN ?_ _) | (with_reducible refine Only.drew ?_) | (with_reducible refine Only.alloc ?_ _) | (with_reducible refine Only.setCell ?_ ?_ _) | (with_reducible refine Only.then0 ?_ (by with_reducible assumption)) | (with_reducible refine Only.thenN ?_ (by with_reducible assumption) ?_) | (with_reducible refine Only.trans ?_ (by with_reducible assumption)) | (refine .inl ?_; first | rfl | (simp; done) | (simp [Ar.blk]; done)) | (refine .inr ?_; first | omega | (simp; done) | (simp; omega) | exact Only.size (by with_reducible assumption) | (refine Nat.le_trans (Only.size (by with_reducible assumption)) ?_; simp; done)))⟩
  · have t1 : (x == p) = false := by simpa using e1
    rw [if_neg e1]
    rcases hsg with rfl | rfl
    · have t2 : decide ((0 : Int) < 1) = true := by decide
      by_cases e2 : x < p
      · have t3 : decide (x < p) = true := by simpa using e2
        rw [if_pos (by omega)]
        clear e1
        go_enter Try.func123, Try.ntmps123
        go_wp2_with fail
        go_quiet (fail)
        go_wp2_with fail
        go_returns
        exact ⟨rfl, by repeat' (first | (with_reducible exact Only.refl _ _) | (with_reducible assumption) | (refine Only.of_none ?_; with_reducible assumption) | (with_reducible refine Only.drewN ?_ _) | (with_reducible refine Only.drew ?_) | (with_reducible refine Only.alloc ?_ _) | (with_reducible refine Only.setCell ?_ ?_ _) | (with_reducible refine Only.then0 ?_ (by with_reducible assumption)) | (with_reducible refine Only.thenN ?_ (by with_reducible assumption) ?_) | (with_reducible refine Only.trans ?_ (by with_reducible assumption)) | (refine .inl ?_; first | rfl | (simp; done) | (simp [Ar.blk]; done)) | (refine .inr ?_; first | omega | (simp; done) | (simp; omega) | exact Only.size (by with_reducible assumption) | (refine Nat.le_trans (Only.size (by with_reducible assumption)) ?_; simp; done)))⟩
      · have t3 : decide (x < p) = false := by simpa using e2
        rw [if_neg (by omega)]
        clear e1
        go_enter Try.func123, Try.ntmps123
        go_wp2_with fail
        go_quiet (fail)
        go_wp2_with fail
        go_returns
        exact ⟨rfl, by repeat' (first | (with_reducible exact Only.refl _ _) | (with_reducible assumption) | (refine Only.of_none ?_; with_reducible assumption) | (with_reducible refine Only.drewN ?_ _) | (with_reducible refine Only.drew ?_) | (with_reducible refine Only.alloc ?_ _) | (with_reducible refine Only.setCell ?_ ?_ _) | (with_reducible refine Only.then0 ?_ (by with_reducible assumption)) | (with_reducible refine Only.thenN ?_ (by with_reducible assumption) ?_) | (with_reducible refine Only.trans ?_ (by with_reducible assumption)) | (refine .inl ?_; first | rfl | (simp; done) | (simp [Ar.blk]; done)) | (refine .inr ?_; first | omega | (simp; done) | (simp; omega) | exact Only.size (by with_reducible assumption) | (refine Nat.le_trans (Only.size (by with_reducible assumption)) ?_; simp; done)))⟩
    · have t2 : decide ((0 : Int) < -1) = false := by decide
      by_cases e2 : x < p
      · have t3 : decide (x < p) = true := by simpa using e2
        rw [if_neg (by omega)]
        clear e1
        go_enter Try.func123, Try.ntmps123
        go_wp2_with fail
        go_quiet (fail)
        go_wp2_with fail
        go_returns
        exact ⟨rfl, by repeat' (first | (with_reducible exact Only.refl _ _) | (with_reducible assumption) | (refine Only.of_none ?_; with_reducible assumption) | (with_reducible refine Only.drewN ?_ _) | (with_reducible refine Only.drew ?_) | (with_reducible refine Only.alloc ?_ _) | (with_reducible refine Only.setCell ?_ ?_ _) | (with_reducible refine Only.then0 ?_ (by with_reducible assumption)) | (with_reducible refine Only.thenN ?_ (by with_reducible assumption) ?_) | (with_reducible refine Only.trans ?_ (by with_reducible assumption)) | (refine .inl ?_; first | rfl | (simp; done) | (simp [Ar.blk]; done)) | (refine .inr ?_; first | omega | (simp; done) | (simp; omega) | exact Only.size (by with_reducible assumption) | (refine Nat.le_trans (Only.size (by with_reducible assumption)) ?_; simp; done)))⟩
      · have t3 : decide (x < p) = false := by simpa using e2
        rw [if_pos (by omega)]
        clear e1
        go_enter Try.func123, Try.ntmps123
        go_wp2_with fail
        go_quiet (fail)
        go_wp2_with fail
        go_returns
        exact ⟨rfl, by repeat' (first | (with_reducible exact Only.refl _ _) | (with_reducible assumption) | (refine Only.of_none ?_; with_reducible assumption) | (with_reducible refine Only.drewN ?_ _) | (with_reducible refine Only.drew ?_) | (with_reducible refine Only.alloc ?_ _) | (with_reducible refine Only.setCell ?_ ?_ _) | (with_reducible refine Only.then0 ?_ (by with_reducible assumption)) | (with_reducible refine Only.thenN ?_ (by with_reducible assumption) ?_) | (with_reducible refine Only.trans ?_ (by with_reducible assumption)) | (refine .inl ?_; first | rfl | (simp; done) | (simp [Ar.blk]; done)) | (refine .inr ?_; first | omega | (simp; done) | (simp; omega) | exact Only.size (by with_reducible assumption) | (refine Nat.le_trans (Only.size (by with_reducible assumption)) ?_; simp; done)))⟩
end
end Go.Proofs.Ytilngakgofjmpaa

/- Levels: the library's search over a side's prices, and place, walked. Conditions: a side as its New lays it. -/
namespace Go.Proofs.Ytilngakgofjmpaa
set_option linter.unusedVariables false
set_option linter.unusedSimpArgs false
open Go.RowKit

section
variable {w : World} {b gu most : Nat} {sg : Int} {hv : Value} {L : List (Int × Nat)}

set_option maxHeartbeats 4000000 in
set_option maxRecDepth 100000 in
theorem s_search (h : SideAt w b gu most sg hv L) (p : Int) (bs : Nat) (hbs : w.cell? ⟨bs, 0, none⟩ = some (.pointer (some ⟨b, 0, none⟩))) :
    Calls Try.prog 122 #[hv, .int .i64 p, .func (.func 123) #[] #[.pointer (some ⟨bs, 0, none⟩)]] w fun e w' =>
      e = .returned (.tuple #[.int .i64 (pos sg p L : Nat), .bool (has p L)]) ∧ Only (fun _ => False) w w' := by
  have hln := h.len
  have hsm := h.small
  obtain ⟨a, cap, hvv, hcap⟩ := own_slice h.own
  have hpl := pos_le sg p L
  obtain ⟨k, hk⟩ : ∃ k, k = pos sg p L := ⟨_, rfl⟩
  obtain ⟨n, hn⟩ : ∃ n, n = L.length := ⟨_, rfl⟩
  rw [← hn] at hln hcap hpl
  rw [← hk] at hpl ⊢
  rw [hvv, ← hn]
  have HH := Lib.hid h
  have HK := Lib.hid hk
  have HN := Lib.hid hn
  have HV := Lib.hid hvv
  obtain ⟨q, hq⟩ : ∃ q, q = has p L := ⟨_, rfl⟩
  rw [← hq]
  have HQ := Lib.hid hq
  clear hq
  have HBS := Lib.hid hbs
  clear h hk hn hvv hbs
  go_enter Try.func122, Try.ntmps122
  go_wp2_with fail
  go_loopw [9, 10] (fun s9 s10 wr => ∃ i j : Nat, i ≤ k ∧ k ≤ j ∧ j ≤ n ∧ s9 = .int .i64 i ∧ s10 = .int .i64 j ∧ Only (fun _ => False) w wr) (fun s9 s10 _ => (intOf s10).toNat - (intOf s9).toNat)
  case atStart => exact ⟨0, n, by omega, by omega, Nat.le_refl _, rfl, rfl, Only.refl _ _⟩
  case round =>
    obtain ⟨i, j, hi, hj, hjn, rfl, rfl, ho⟩ := hrel
    by_cases hlt : i < j
    · have t1 : decide (i < j) = true := by simpa using hlt
      obtain ⟨m, hm⟩ : ∃ m, m = (i + j) / 2 := ⟨_, rfl⟩
      have hmn : m < n := by omega
      obtain ⟨x, hx⟩ : ∃ x, L[m]? = some x := ⟨_, List.getElem?_eq_getElem (by rw [← HN.out]; exact hmn)⟩
      obtain ⟨g, cap', e, _, hg, v1, v2⟩ := HH.out.at_ hx
      rw [HV.out, ← HN.out] at e
      obtain ⟨rfl, rfl⟩ : a = some ⟨g, 0, none⟩ ∧ cap = cap' := by injection e with e1 e2 e3; exact ⟨e1, e3⟩
      have v1 := ho.cell v1.cell id
      have v2 := ho.cell v2.cell id
      have zg := cell_lt v1
      have im : (0 : Int) ≤ (m : Int) ∧ (m : Int) < (n : Int) := by omega
      have w1 : IntKind.i64.wrap ((i : Int) + (j : Int)) = (i : Int) + (j : Int) := by rw [IntKind.wrap_i64]; omega
      have hC := Lib.hid (s_cmp (HH.out.only ho (fun _ _ => id)) x.1 p x.2 bs (ho.cell HBS.out id))
      have hlt2 := pos_lt (p := p) HH.out.srt hx
      rw [← HK.out] at hlt2
      obtain ⟨c, hc⟩ : ∃ c, c = cmpV sg x.1 p := ⟨_, rfl⟩
      rw [← hc] at hC
      have hmI : ((i : Int) + (j : Int)) / 2 = (m : Int) := by omega
      obtain ⟨xp, xr⟩ := x
      simp only at v1 v2 hC hlt2 hc
      by_cases hcm : c < 0
      · have t2 : decide (c < 0) = true := by simpa using hcm
        have hmk : m < k := hlt2.2 (by unfold cmpV at hc; split at hc; omega; split at hc; assumption; omega)
        have w2 : IntKind.i64.wrap ((m : Int) + 1) = (m : Int) + 1 := by rw [IntKind.wrap_i64]; omega
        have HM := Lib.hid hm
        clear e hx hm hlt2 hc hcm
        go_wp2_with fail
        refine hC.out.mono ?_
        rintro e w2 ⟨rfl, o2⟩
        go_wp2_with fail
        go_roundw
        case rel => exact ⟨m + 1, j, by omega, hj, hjn, by go_num, rfl, ho.trans o2⟩
        case measure => have := HM.out; simp [intOf]; omega
      · have t2 : decide (c < 0) = false := by simpa using hcm
        have hmk : k ≤ m := by
          rcases Nat.lt_or_ge m k with h1 | h1
          · have h2 := hlt2.1 h1
            unfold cmpV at hc
            by_cases h3 : xp = p
            · rw [h3] at h2; omega
            · rw [if_neg h3, if_pos h2] at hc; omega
          · exact h1
        have HM := Lib.hid hm
        clear e hx hm hlt2 hc hcm
        go_wp2_with fail
        refine hC.out.mono ?_
        rintro e w2 ⟨rfl, o2⟩
        go_wp2_with fail
        go_roundw
        case rel => exact ⟨i, m, hi, hmk, by omega, rfl, rfl, ho.trans o2⟩
        case measure => have := HM.out; simp [intOf]; omega
    · have t1 : decide (i < j) = false := by simpa using hlt
      obtain rfl : i = k := by omega
      by_cases hin : i < n
      · have t2 : decide (i < n) = true := by simpa using hin
        obtain ⟨x, hx⟩ : ∃ x, L[i]? = some x := ⟨_, List.getElem?_eq_getElem (by rw [← HN.out]; exact hin)⟩
        obtain ⟨g, cap', e, _, hg, v1, v2⟩ := HH.out.at_ hx
        rw [HV.out, ← HN.out] at e
        obtain ⟨rfl, rfl⟩ : a = some ⟨g, 0, none⟩ ∧ cap = cap' := by injection e with e1 e2 e3; exact ⟨e1, e3⟩
        have v1 := ho.cell v1.cell id
        have v2 := ho.cell v2.cell id
        have zg := cell_lt v1
        have im : (0 : Int) ≤ (i : Int) ∧ (i : Int) < (n : Int) := by omega
        have hC := Lib.hid (s_cmp (HH.out.only ho (fun _ _ => id)) x.1 p x.2 bs (ho.cell HBS.out id))
        have hhas : (cmpV sg x.1 p == 0) = q := by
          rw [HQ.out, Bool.eq_iff_iff, has_at HH.out.hsg HH.out.srt, ← HK.out]
          simp only [beq_iff_eq]
          constructor
          · intro h
            refine ⟨x, hx, ?_⟩
            unfold cmpV at h
            split at h
            · assumption
            · split at h <;> omega
          · rintro ⟨y, hy, e⟩
            rw [hx] at hy
            injection hy with hy
            subst hy
            unfold cmpV
            rw [if_pos e]
        obtain ⟨c, hc⟩ : ∃ c, c = cmpV sg x.1 p := ⟨_, rfl⟩
        rw [← hc] at hC hhas
        have HHAS := Lib.hid hhas
        obtain ⟨xp, xr⟩ := x
        simp only at v1 v2 hC
        clear e hx hc hhas
        go_wp2_with fail
        refine hC.out.mono ?_
        rintro e w2 ⟨rfl, o2⟩
        go_wp2_with fail
        go_returns
        exact ⟨by rw [HHAS.out]; rfl, ho.trans o2⟩
      · have t2 : decide (i < n) = false := by simpa using hin
        have hhas : has p L = false := by
          rw [← Bool.not_eq_true, has_at HH.out.hsg HH.out.srt, ← HK.out]
          rintro ⟨x, hx, _⟩
          have := (List.getElem?_eq_some_iff.1 hx).1
          rw [← HN.out] at this
          omega
        have hqf := HQ.out.trans hhas
        subst hqf
        clear hhas
        go_wp2_with fail
        go_returns
        exact ⟨rfl, ho⟩

theorem s_place (h : SideAt w b gu most sg hv L) (p : Int) :
    Calls Try.prog 61 #[.pointer (some ⟨b, 0, none⟩), .int .i64 p] w fun e w' => e = .returned (.tuple #[.int .i64 (pos sg p L : Nat), .bool (has p L)]) ∧ Only (fun _ => False) w w' := by
  have c1 := h.c1.cell
  have z1 := cell_lt c1
  have HS := fun W bs hbs (o : Only (fun _ => False) w W) => Lib.hid (s_search (w := W) (h.only o (fun _ _ => id)) p bs hbs)
  generalize pos sg p L = k at *
  generalize has p L = q at *
  obtain ⟨a, cap, hvv, hcap⟩ := own_slice h.own
  rw [hvv] at c1 HS
  clear h hvv
  go_enter Try.func61, Try.ntmps61
  go_wp2_with fail
  refine (HS _ w.heap.size (Cell.new rfl).cell (by repeat' (first | (with_reducible exact Only.refl _ _) | (with_reducible assumption) | (refine Only.of_none ?_; with_reducible assumption) | (with_reducible refine Only.drewN ?_ _) | (with_reducible refine Only.drew ?_) | (with_reducible refine Only.alloc ?_ _) | (with_reducible refine Only.setCell ?_ ?_ _) | (with_reducible refine Only.then0 ?_ (by with_reducible assumption)) | (with_reducible refine Only.thenN ?_ (by with_reducible assumption) ?_) | (with_reducible refine Only.trans ?_ (by with_reducible assumption)) | (refine .inl ?_; first | rfl | (simp; done) | (simp [Ar.blk]; done)) | (refine .inr ?_; first | omega | (simp; done) | (simp; omega) | exact Only.size (by with_reducible assumption) | (refine Nat.le_trans (Only.size (by with_reducible assumption)) ?_; simp; done))))).out.mono ?_
  rintro e w2 ⟨rfl, o2⟩
  go_wp2_with fail
  go_returns
  exact ⟨rfl, by repeat' (first | (with_reducible exact Only.refl _ _) | (with_reducible assumption) | (refine Only.of_none ?_; with_reducible assumption) | (with_reducible refine Only.drewN ?_ _) | (with_reducible refine Only.drew ?_) | (with_reducible refine Only.alloc ?_ _) | (with_reducible refine Only.setCell ?_ ?_ _) | (with_reducible refine Only.then0 ?_ (by with_reducible assumption)) | (with_reducible refine Only.thenN ?_ (by with_reducible assumption) ?_) | (with_reducible refine Only.trans ?_ (by with_reducible assumption)) | (refine .inl ?_; first | rfl | (simp; done) | (simp [Ar.blk]; done)) | (refine .inr ?_; first | omega | (simp; done) | (simp; omega) | exact Only.size (by with_reducible assumption) | (refine Nat.le_trans (Only.size (by with_reducible assumption)) ?_; simp; done)))⟩
end
end Go.Proofs.Ytilngakgofjmpaa

/- Levels: Add, Drop, Find, At, Best, Len, Better, walked. Conditions: a side as its New lays it. -/
namespace Go.Proofs.Ytilngakgofjmpaa
set_option linter.unusedVariables false
set_option linter.unusedSimpArgs false
open Go.RowKit

/-! ### The plain side -/
/-- A price is put at its place. -/
def put (sg p : Int) (r : Nat) (L : List (Int × Nat)) : List (Int × Nat) := L.take (pos sg p L) ++ [(p, r)] ++ L.drop (pos sg p L)
/-- The price at a place is taken out. -/
def cutAt (k : Nat) (L : List (Int × Nat)) : List (Int × Nat) := L.take k ++ L.drop (k + 1)

theorem put_mem {sg p : Int} {r : Nat} {L : List (Int × Nat)} {x : Int × Nat} : x ∈ put sg p r L ↔ x = (p, r) ∨ x ∈ L := by
  unfold put
  rw [List.mem_append, List.mem_append, List.mem_singleton]
  constructor
  · rintro ((h | h) | h)
    · exact .inr (List.mem_of_mem_take h)
    · exact .inl h
    · exact .inr (List.mem_of_mem_drop h)
  · rintro (h | h)
    · exact .inl (.inr h)
    · rw [← List.take_append_drop (pos sg p L) L] at h
      rcases List.mem_append.1 h with h | h
      · exact .inl (.inl h)
      · exact .inr h
theorem put_len {sg p : Int} {r : Nat} {L : List (Int × Nat)} : (put sg p r L).length = L.length + 1 := by
  have := pos_le sg p L
  unfold put
  simp
  omega
theorem take_pos {sg p : Int} {L : List (Int × Nat)} (hs : Srt sg L) {x : Int × Nat} (h : x ∈ L.take (pos sg p L)) : sg * x.1 < sg * p := by
  obtain ⟨j, hj⟩ := List.mem_iff_getElem?.1 h
  rw [List.getElem?_take] at hj
  split at hj
  · rename_i hlt; exact (pos_lt hs hj).1 hlt
  · cases hj
theorem drop_pos {sg p : Int} {L : List (Int × Nat)} (hs : Srt sg L) {x : Int × Nat} (h : x ∈ L.drop (pos sg p L)) : sg * p ≤ sg * x.1 := by
  obtain ⟨j, hj⟩ := List.mem_iff_getElem?.1 h
  rw [List.getElem?_drop] at hj
  have h1 := pos_lt (p := p) hs hj
  by_cases h2 : sg * x.1 < sg * p
  · have := h1.2 h2; omega
  · omega
theorem srt_put {sg p : Int} {r : Nat} {L : List (Int × Nat)} (hsg : sg = 1 ∨ sg = -1) (hs : Srt sg L) (hp : has p L = false) : Srt sg (put sg p r L) := by
  unfold put Srt
  rw [List.append_assoc, List.pairwise_append]
  have hne : ∀ x ∈ L, x.1 ≠ p := fun x hx e => by
    rw [← Bool.not_eq_true, has_iff] at hp
    exact hp ⟨x, hx, e⟩
  refine ⟨hs.sublist (List.take_sublist _ _), ?_, fun x hx y hy => ?_⟩
  · rw [List.singleton_append, List.pairwise_cons]
    refine ⟨fun y hy => ?_, hs.sublist (List.drop_sublist _ _)⟩
    have h1 := drop_pos hs hy
    have h2 := hne y (List.mem_of_mem_drop hy)
    show sg * p < sg * y.1
    rcases Int.lt_or_eq_of_le h1 with h3 | h3
    · exact h3
    · exact absurd (sg_inj hsg h3).symm h2
  · have h1 := take_pos hs hx
    simp only [List.singleton_append, List.mem_cons] at hy
    rcases hy with rfl | hy
    · exact h1
    · have := drop_pos hs hy
      omega
theorem nodup_put {sg p : Int} {r : Nat} {L : List (Int × Nat)} (hn : (L.map Prod.snd).Nodup) (hr : r ∉ L.map Prod.snd) : ((put sg p r L).map Prod.snd).Nodup := by
  have hperm : (put sg p r L).Perm ((p, r) :: L) := by
    unfold put
    have h1 : (L.take (pos sg p L) ++ [(p, r)] ++ L.drop (pos sg p L)).Perm ([(p, r)] ++ L.take (pos sg p L) ++ L.drop (pos sg p L)) := List.Perm.append_right _ List.perm_append_comm
    refine h1.trans ?_
    rw [List.append_assoc, List.take_append_drop]
    exact List.Perm.refl _
  rw [(hperm.map Prod.snd).nodup_iff]
  exact List.nodup_cons.2 ⟨hr, hn⟩
theorem cut_sub (k : Nat) (L : List (Int × Nat)) : (cutAt k L).Sublist L := by
  unfold cutAt
  have h1 : (L.drop (k + 1)).Sublist (L.drop k) := by
    rw [show L.drop (k + 1) = (L.drop k).drop 1 by rw [List.drop_drop]]
    exact List.drop_sublist _ _
  have h2 := List.Sublist.append (List.Sublist.refl (L.take k)) h1
  rwa [List.take_append_drop] at h2
theorem nodup_len : ∀ (l m : List Nat), l.Nodup → (∀ x ∈ l, x ∈ m) → l.length ≤ m.length := by
  intro l
  induction l with
  | nil => intro m _ _; simp
  | cons a t ih =>
    intro m hn hs
    have h2 := List.nodup_cons.1 hn
    have ha := hs a (by simp)
    have := ih (m.erase a) h2.2 (fun x hx => (List.mem_erase_of_ne (fun e : x = a => h2.1 (e ▸ hx))).2 (hs x (by simp [hx])))
    rw [List.length_erase_of_mem ha] at this
    have hm : 0 < m.length := List.length_pos_of_mem ha
    simp only [List.length_cons]
    omega
/-- There is a row for one more, as long as there is room. -/
theorem free_row {most : Nat} {L : List (Int × Nat)} (h : L.length < most) : ∃ r, r < most ∧ r ∉ L.map Prod.snd ∧ ∀ k, k < r → k ∈ L.map Prod.snd := by
  have hex : ∃ r, r < most ∧ r ∉ L.map Prod.snd := by
    rcases Classical.em (∃ r, r < most ∧ r ∉ L.map Prod.snd) with h1 | h1
    · exact h1
    · have := nodup_len (List.range most) (L.map Prod.snd) List.nodup_range (fun x hx => Classical.byContradiction fun hc => h1 ⟨x, by simpa using hx, hc⟩)
      simp at this
      omega
  obtain ⟨r, hr, hn⟩ := hex
  induction r using Nat.strongRecOn with
  | _ r ih =>
    by_cases h1 : ∃ k, k < r ∧ k ∉ L.map Prod.snd
    · obtain ⟨k, hk, hf⟩ := h1
      exact ih k hk (by omega) hf
    · exact ⟨r, hr, hn, fun k hk => Classical.byContradiction fun hc => h1 ⟨k, hk, hc⟩⟩
theorem full_rows {most : Nat} {L : List (Int × Nat)} (hn : (L.map Prod.snd).Nodup) (hl : ∀ x ∈ L, x.2 < most) (h : most ≤ L.length) : ∀ k, k < most → k ∈ L.map Prod.snd := fun k hk =>
  Classical.byContradiction fun hc => by
    have := nodup_len (k :: L.map Prod.snd) (List.range most) (List.nodup_cons.2 ⟨hc, hn⟩) (fun x hx => by
      rcases List.mem_cons.1 hx with rfl | hx
      · simpa using hk
      · obtain ⟨y, hy, rfl⟩ := List.mem_map.1 hx
        simpa using hl y hy)
    simp at this
    omega

/-! ### The walks -/
section
variable {w : World} {b gu most : Nat} {sg : Int} {hv : Value} {L : List (Int × Nat)}

set_option maxHeartbeats 1000000 in
theorem s_index (h : SideAt w b gu most sg hv L) (r : Nat) (hr : r < most) (hn : r ∉ L.map Prod.snd) (hmin : ∀ k, k < r → k ∈ L.map Prod.snd) :
    Calls Try.prog 62 #[.slice (some ⟨gu, 0, none⟩) most most, .bool false] w fun e w' => e = .returned (.int .i64 (r : Nat)) ∧ w = w' := by
  have hsm := h.small
  have hgl := h.gul
  have hu := h.us
  have HU := Lib.hid hu
  have HN := Lib.hid hn
  have HM := Lib.hid hmin
  clear h hu hn hmin
  go_enter Try.func62, Try.ntmps62
  go_wp2_with fail
  go_loop [8] (fun s => ∃ j : Nat, j ≤ r ∧ s = .int .i64 j) (fun s => r + 1 - (intOf s).toNat)
  case atStart => exact ⟨0, by omega, rfl⟩
  case round =>
    obtain ⟨j, hj, rfl⟩ := hrel
    have tj : decide (j < most) = true := by simp; omega
    have ij : (0 : Int) ≤ (j : Int) ∧ (j : Int) < (most : Int) := by omega
    have u := (HU.out j (by omega)).cell
    by_cases hlt : j < r
    · have e : rowB L j = true := by unfold rowB; exact decide_eq_true (HM.out j hlt)
      rw [e] at u
      have w2 : IntKind.i64.wrap ((j : Int) + 1) = (j : Int) + 1 := by rw [IntKind.wrap_i64]; omega
      clear e
      go_wp2_with fail
      go_round
      case rel => exact ⟨j + 1, by omega, by go_num⟩
      case measure => simp [intOf]; omega
    · obtain rfl : j = r := by omega
      have e : rowB L j = false := by unfold rowB; exact decide_eq_false HN.out
      rw [e] at u
      clear e
      go_wp2_with fail
      go_returns
      exact ⟨rfl, rfl⟩

set_option maxHeartbeats 1000000 in
theorem s_index_no (h : SideAt w b gu most sg hv L) (hall : ∀ k, k < most → k ∈ L.map Prod.snd) :
    Calls Try.prog 62 #[.slice (some ⟨gu, 0, none⟩) most most, .bool false] w fun e w' => e = .returned (.int .i64 (-1)) ∧ w = w' := by
  have hsm := h.small
  have hgl := h.gul
  have hu := h.us
  have HU := Lib.hid hu
  have HM := Lib.hid hall
  clear h hu hall
  go_enter Try.func62, Try.ntmps62
  go_wp2_with fail
  go_loop [8] (fun s => ∃ j : Nat, j ≤ most ∧ s = .int .i64 j) (fun s => most - (intOf s).toNat)
  case atStart => exact ⟨0, by omega, rfl⟩
  case round =>
    obtain ⟨j, hj, rfl⟩ := hrel
    by_cases hlt : j < most
    · have tj : decide (j < most) = true := by simpa using hlt
      have ij : (0 : Int) ≤ (j : Int) ∧ (j : Int) < (most : Int) := by omega
      have u := (HU.out j (by omega)).cell
      have e : rowB L j = true := by unfold rowB; exact decide_eq_true (HM.out j hlt)
      rw [e] at u
      have w2 : IntKind.i64.wrap ((j : Int) + 1) = (j : Int) + 1 := by rw [IntKind.wrap_i64]; omega
      clear e
      go_wp2_with fail
      go_round
      case rel => exact ⟨j + 1, by omega, by go_num⟩
      case measure => simp [intOf]; omega
    · have tj : decide (j < most) = false := by simpa using hlt
      go_wp2_with fail
      go_returns
      exact ⟨rfl, rfl⟩

theorem s_add_bad (p : Int) (hp : p < 1 ∨ 1000000000 < p) :
    Calls Try.prog 17 #[.pointer (some ⟨b, 0, none⟩), .int .i64 p] w fun e w' => e = .returned (.tuple #[.int .i64 0, .int .i64 1]) ∧ w = w' := by
  by_cases h1 : p < 1
  · have t1 : decide (p < 1) = true := by simpa using h1
    clear hp
    go_enter Try.func17, Try.ntmps17
    go_wp2_with fail
    go_returns
    exact ⟨rfl, rfl⟩
  · have t1 : decide (p < 1) = false := by simpa using h1
    have t2 : decide (1000000000 < p) = true := by simp; omega
    clear hp
    go_enter Try.func17, Try.ntmps17
    go_wp2_with fail
    go_returns
    exact ⟨rfl, rfl⟩

/-- slices.Index, whatever it finds. -/
theorem s_index_any (h : SideAt w b gu most sg hv L) : ∃ x : Int, Calls Try.prog 62 #[.slice (some ⟨gu, 0, none⟩) most most, .bool false] w fun e w' => e = .returned (.int .i64 x) ∧ w = w' := by
  rcases Nat.lt_or_ge L.length most with h1 | h1
  · obtain ⟨r, a1, a2, a3⟩ := free_row h1
    exact ⟨_, s_index h r a1 a2 a3⟩
  · exact ⟨_, s_index_no h (full_rows h.nd h.lt h1)⟩

theorem s_add_twice (h : SideAt w b gu most sg hv L) (p : Int) (h1 : 1 ≤ p) (h2 : p ≤ 1000000000) (hp : has p L = true) :
    Calls Try.prog 17 #[.pointer (some ⟨b, 0, none⟩), .int .i64 p] w fun e w' => e = .returned (.tuple #[.int .i64 0, .int .i64 52]) ∧ Only (fun _ => False) w w' := by
  have HP := Lib.hid (s_place h p)
  rw [hp] at HP
  generalize pos sg p L = k at *
  have HI := fun W (o : Only (fun _ => False) w W) => Lib.hid (s_index_any (SideU.only h o (fun _ _ => id)))
  have H2 := fun W (o : Only (fun _ => False) w W) => Lib.hid (SideU.only h o (fun _ _ => id)).c2.cell
  have t1 : decide (p < 1) = false := by simp; omega
  have t2 : decide (1000000000 < p) = false := by simp; omega
  clear h hp
  go_enter Try.func17, Try.ntmps17
  go_wp2_with fail
  refine HP.out.mono ?_
  rintro e w1 ⟨rfl, o1⟩
  have c2 := (H2 w1 o1).out
  obtain ⟨x, hx⟩ := (HI w1 o1).out
  have HX := Lib.hid hx
  clear hx HI H2
  go_wp2_with fail
  refine HX.out.mono ?_
  rintro e w2 ⟨rfl, rfl⟩
  go_wp2_with fail
  go_returns
  exact ⟨rfl, by repeat' (first | (with_reducible exact Only.refl _ _) | (with_reducible assumption) | (refine Only.of_none ?_; with_reducible assumption) | (with_reducible refine Only.drewN ?_ _) | (with_reducible refine Only.drew ?_) | (with_reducible refine Only.alloc ?_ _) | (with_reducible refine Only.setCell ?_ ?_ _) | (with_reducible refine Only.then0 ?_ (by with_reducible assumption)) | (with_reducible refine Only.thenN ?_ (by with_reducible assumption) ?_) | (with_reducible refine Only.trans ?_ (by with_reducible assumption)) | (refine .inl ?_; first | rfl | (simp; done) | (simp [Ar.blk]; done)) | (refine .inr ?_; first | omega | (simp; done) | (simp; omega) | exact Only.size (by with_reducible assumption) | (refine Nat.le_trans (Only.size (by with_reducible assumption)) ?_; simp; done)))⟩

theorem s_add_full (h : SideAt w b gu most sg hv L) (p : Int) (h1 : 1 ≤ p) (h2 : p ≤ 1000000000) (hp : has p L = false) (hf : most ≤ L.length) :
    Calls Try.prog 17 #[.pointer (some ⟨b, 0, none⟩), .int .i64 p] w fun e w' => e = .returned (.tuple #[.int .i64 0, .int .i64 50]) ∧ Only (fun _ => False) w w' := by
  have HP := Lib.hid (s_place h p)
  rw [hp] at HP
  generalize pos sg p L = k at *
  have HI := fun W (o : Only (fun _ => False) w W) => Lib.hid (s_index_no (SideU.only h o (fun _ _ => id)) (full_rows h.nd h.lt hf))
  have H2 := fun W (o : Only (fun _ => False) w W) => Lib.hid (SideU.only h o (fun _ _ => id)).c2.cell
  have t1 : decide (p < 1) = false := by simp; omega
  have t2 : decide (1000000000 < p) = false := by simp; omega
  clear h hp hf
  go_enter Try.func17, Try.ntmps17
  go_wp2_with fail
  refine HP.out.mono ?_
  rintro e w1 ⟨rfl, o1⟩
  have c2 := (H2 w1 o1).out
  go_wp2_with fail
  refine (HI w1 o1).out.mono ?_
  rintro e w2 ⟨rfl, rfl⟩
  go_wp2_with fail
  go_returns
  exact ⟨rfl, by repeat' (first | (with_reducible exact Only.refl _ _) | (with_reducible assumption) | (refine Only.of_none ?_; with_reducible assumption) | (with_reducible refine Only.drewN ?_ _) | (with_reducible refine Only.drew ?_) | (with_reducible refine Only.alloc ?_ _) | (with_reducible refine Only.setCell ?_ ?_ _) | (with_reducible refine Only.then0 ?_ (by with_reducible assumption)) | (with_reducible refine Only.thenN ?_ (by with_reducible assumption) ?_) | (with_reducible refine Only.trans ?_ (by with_reducible assumption)) | (refine .inl ?_; first | rfl | (simp; done) | (simp [Ar.blk]; done)) | (refine .inr ?_; first | omega | (simp; done) | (simp; omega) | exact Only.size (by with_reducible assumption) | (refine Nat.le_trans (Only.size (by with_reducible assumption)) ?_; simp; done)))⟩
end
end Go.Proofs.Ytilngakgofjmpaa

/- Levels: Add and Drop where they turn the side; Find, At, Best, Len, Better; New. Conditions: a side as its New lays it. -/
namespace Go.Proofs.Ytilngakgofjmpaa
set_option linter.unusedVariables false
set_option linter.unusedSimpArgs false
open Go.RowKit

/-- A side is another one. -/
def SdPost (b gu most : Nat) (sg : Int) (hv : Value) (L' : List (Int × Nat)) (w : World) (v : Value) (e : Ending) (w' : World) : Prop :=
  ∃ hv', e = .returned v ∧ SideAt w' b gu most sg hv' L' ∧ Only (SdB b gu hv) w w' ∧ (hv'.ownBlock = hv.ownBlock ∨ ∃ g, hv'.ownBlock = some g ∧ w.heap.size ≤ g)

section
variable {w : World} {b gu most : Nat} {sg : Int} {hv : Value} {L : List (Int × Nat)}

theorem row_put {p : Int} {r : Nat} : ∀ n, n < most → (fun k => if k = r then true else rowB L k) n = rowB (put sg p r L) n := fun n _ => by
  show (if n = r then true else rowB L n) = _
  unfold rowB
  rw [Bool.eq_iff_iff]
  simp only [decide_eq_true_eq, List.mem_map]
  by_cases e : n = r
  · subst e
    simp only [if_pos, true_iff]
    exact ⟨(p, n), put_mem.2 (.inl rfl), rfl⟩
  · rw [if_neg e]
    simp only [decide_eq_true_eq, List.mem_map]
    constructor
    · rintro ⟨x, hx, rfl⟩
      exact ⟨x, put_mem.2 (.inr hx), rfl⟩
    · rintro ⟨x, hx, rfl⟩
      rcases put_mem.1 hx with rfl | hx
      · exact absurd rfl e
      · exact ⟨x, hx, rfl⟩

set_option maxHeartbeats 4000000 in
set_option maxRecDepth 100000 in
theorem s_add (h : SideAt w b gu most sg hv L) (p : Int) (h1 : 1 ≤ p) (h2 : p ≤ 1000000000) (hp : has p L = false) (r : Nat) (hr : r < most) (hn : r ∉ L.map Prod.snd) (hmin : ∀ k, k < r → k ∈ L.map Prod.snd) (hl : L.length < most) :
    Calls Try.prog 17 #[.pointer (some ⟨b, 0, none⟩), .int .i64 p] w (SdPost b gu most sg hv (put sg p r L) w (.tuple #[.int .i64 (r : Nat), .int .i64 0])) := by
  have HP := Lib.hid (s_place h p)
  rw [hp] at HP
  have HI := fun W (o : Only (fun _ => False) w W) => Lib.hid (s_index (SideU.only h o (fun _ _ => id)) r hr hn hmin)
  have HH := Lib.hid h
  have hsm := h.small
  have hpl := pos_le sg p L
  have HSRT := Lib.hid (srt_put (r := r) h.hsg h.srt hp)
  have HND := Lib.hid (nodup_put (sg := sg) (p := p) (r := r) h.nd hn)
  obtain ⟨k, hk⟩ : ∃ k, k = pos sg p L := ⟨_, rfl⟩
  have hcells : lvV (put sg p r L) = (lvV L).take (k * 2) ++ [.int .i64 p, .int .i64 (r : Int)] ++ (lvV L).drop (k * 2) := by
    unfold put
    rw [lvV_append, lvV_append, lvV_take, lvV_drop, ← hk]; rfl
  rw [← hk] at HP hpl
  have HC := Lib.hid hcells
  have t1 : decide (p < 1) = false := by simp; omega
  have t2 : decide (1000000000 < p) = false := by simp; omega
  have ir : (0 : Int) ≤ (r : Int) ∧ (r : Int) < (most : Int) := by omega
  clear h hp hn hmin hk hcells
  go_enter Try.func17, Try.ntmps17
  go_wp2_with fail
  refine HP.out.mono ?_
  rintro e w1 ⟨rfl, o1⟩
  have H1 := SideU.only HH.out o1 (fun _ _ => id)
  have c2 := H1.c2.cell
  have zl := H1.gul
  have zb := cell_lt c2
  have u := (H1.us r hr).cell
  have uf := (H1.us r hr).free
  have M1 := H1.mark r true
  have M2 := SideU.only M1 ((Only.refl (fun _ => False) _).alloc (.cells #[.int .i64 p, .int .i64 (r : Int)] 137)) (fun _ _ => id)
  have hnew := heap_alloc_new (w1.setCell ⟨gu, r, none⟩ (.bool true)) (.cells #[.int .i64 p, .int .i64 (r : Int)] 137)
  rw [World.size_setCell] at hnew
  have HINS := Lib.hid (lv_insert _ hv L.length k (lvV L) M2.own (by omega) hpl (lvV_one L) w1.heap.size (.int .i64 p) (.int .i64 (r : Int)) hnew rfl rfl (fun e => by have := (H1.own.lt _ e).2; omega))
  obtain ⟨a, cap, hvv, hcap⟩ := own_slice H1.own
  have hv1 := M1.c1.cell
  rw [hvv] at hv1 HINS
  have M2' := Lib.hid M2
  have HVV := Lib.hid hvv
  have O1 := Lib.hid o1
  have ne1 : ¬ gu = b := fun e => H1.ne e.symm
  have hsz : (w1.setCell ⟨gu, r, none⟩ (.bool true)).heap.size = w1.heap.size := World.size_setCell ..
  clear HP M1 M2 hnew H1 hvv o1
  go_wp2_with fail
  refine (HI w1 O1.out).out.mono ?_
  rintro e w2 ⟨rfl, rfl⟩
  clear HI
  go_wp2_with fail
  refine HINS.out.mono ?_
  intro e w3 hpost
  obtain ⟨v', rfl, hown, hgr, hloc⟩ := hpost
  obtain ⟨a', cap', rfl, hcap'⟩ := own_slice hown
  have o3 : Only (fun i => hv.ownBlock = some i) _ w3 := Only.of_grown hgr (fun q e => by rw [HVV.out]; exact e)
  have hR := SideU.row M2'.out (L' := put sg p r L) (U' := rowB (put sg p r L)) o3 (by rw [put_len, HC.out]; exact hown) (by
    rw [HVV.out]
    rcases hloc with e | e
    · exact .inl e
    · exact .inr ⟨_, e, Nat.le_refl _⟩) row_put HSRT.out HND.out (fun x hx => by
      rcases put_mem.1 hx with rfl | hx
      · exact hr
      · exact HH.out.lt x hx) (fun x hx => by
      rcases put_mem.1 hx with rfl | hx
      · exact ⟨h1, h2⟩
      · exact HH.out.pr x hx) (by rw [put_len]; omega)
  have sb : ¬ hv.ownBlock = some b := fun e => (HH.out.sep b e).1 rfl
  have k1 := M2'.out.c1.only o3 sb
  have k1c := k1.cell
  have k1f := k1.free
  rw [HVV.out] at k1c
  have HR := Lib.hid hR
  clear hown hgr hloc o3 hR sb k1 HINS
  go_wp2_with fail
  go_returns
  refine ⟨_, rfl, HR.out.1, ?_, ?_⟩
  · have q1 : Only (SdB b gu hv) w (w1.setCell ⟨gu, r, none⟩ (.bool true)) := (Only.of_none O1.out).setCell (.inl (.inr (.inl rfl))) _
    exact (q1.alloc _).trans HR.out.2.1
  · rcases HR.out.2.2 with e | ⟨g, e, hg⟩
    · exact .inl e
    · have := O1.out.size
      simp only [World.size_alloc, World.size_setCell] at hg
      exact .inr ⟨g, e, by omega⟩

theorem cut_cells (k : Nat) (L : List (Int × Nat)) : lvV (cutAt k L) = (lvV L).take (k * 2) ++ (lvV L).drop ((k + 1) * 2) := by
  unfold cutAt
  rw [lvV_append, lvV_take, lvV_drop]
theorem cut_len {k : Nat} {L : List (Int × Nat)} (hk : k < L.length) : (cutAt k L).length = L.length - 1 := by
  unfold cutAt
  simp
  omega
theorem row_cut {k : Nat} {x : Int × Nat} {L : List (Int × Nat)} (hn : (L.map Prod.snd).Nodup) (hx : L[k]? = some x) (n : Nat) : (if n = x.2 then false else rowB L n) = rowB (cutAt k L) n := by
  have hk := (List.getElem?_eq_some_iff.1 hx).1
  have hsplit : L = L.take k ++ x :: L.drop (k + 1) := by
    have h1 := List.take_append_drop k L
    rw [List.drop_eq_getElem_cons hk, (List.getElem?_eq_some_iff.1 hx).2] at h1
    exact h1.symm
  rw [hsplit, List.map_append, List.map_cons] at hn
  have hn2 := List.nodup_append.1 hn
  have hn3 := List.nodup_cons.1 hn2.2.1
  unfold rowB
  rw [Bool.eq_iff_iff]
  have hm : n ∈ L.map Prod.snd ↔ n = x.2 ∨ n ∈ (cutAt k L).map Prod.snd := by
    conv => lhs; rw [hsplit]
    unfold cutAt
    simp only [List.map_append, List.map_cons, List.mem_append, List.mem_cons]
    constructor
    · rintro (h | h | h)
      · exact .inr (.inl h)
      · exact .inl h
      · exact .inr (.inr h)
    · rintro (h | h | h)
      · exact .inr (.inl h)
      · exact .inl h
      · exact .inr (.inr h)
  have hx2 : x.2 ∉ (cutAt k L).map Prod.snd := by
    unfold cutAt
    rw [List.map_append, List.mem_append]
    rintro (h | h)
    · exact hn2.2.2 _ h _ (by simp) rfl
    · exact hn3.1 h
  by_cases e : n = x.2
  · rw [if_pos e]
    subst e
    simp only [Bool.false_eq_true, decide_eq_true_eq, false_iff]
    exact hx2
  · rw [if_neg e]
    simp only [decide_eq_true_eq]
    rw [hm]
    exact ⟨fun h => h.resolve_left e, .inr⟩

theorem s_drop_no (h : SideAt w b gu most sg hv L) (p : Int) (hp : has p L = false) :
    Calls Try.prog 18 #[.pointer (some ⟨b, 0, none⟩), .int .i64 p] w fun e w' => e = .returned (.int .i64 51) ∧ Only (fun _ => False) w w' := by
  have HP := Lib.hid (s_place h p)
  rw [hp] at HP
  generalize pos sg p L = k at *
  clear h hp
  go_enter Try.func18, Try.ntmps18
  go_wp2_with fail
  refine HP.out.mono ?_
  rintro e w1 ⟨rfl, o1⟩
  go_wp2_with fail
  go_returns
  exact ⟨rfl, o1⟩

set_option maxHeartbeats 4000000 in
set_option maxRecDepth 100000 in
theorem s_drop (h : SideAt w b gu most sg hv L) (p : Int) (k : Nat) (hk : k = pos sg p L) (r : Nat) (hx : L[k]? = some (p, r)) :
    Calls Try.prog 18 #[.pointer (some ⟨b, 0, none⟩), .int .i64 p] w (SdPost b gu most sg hv (cutAt k L) w (.int .i64 0)) := by
  have hp : has p L = true := (has_at h.hsg h.srt).2 ⟨(p, r), by rw [← hk]; exact hx, rfl⟩
  have HP := Lib.hid (s_place h p)
  rw [hp, ← hk] at HP
  have hkl := (List.getElem?_eq_some_iff.1 hx).1
  have hrm : r < most := h.lt (p, r) (List.mem_of_getElem? hx)
  have HH := Lib.hid h
  have hsm := h.small
  have hln := h.len
  have hsub := cut_sub k L
  have HSRT := Lib.hid (List.Pairwise.sublist hsub h.srt)
  have HND := Lib.hid (h.nd.sublist (hsub.map Prod.snd))
  have HSUB := Lib.hid hsub
  have HROW := Lib.hid (row_cut h.nd hx)
  have HX := Lib.hid hx
  obtain ⟨n, hn⟩ : ∃ n, n = L.length := ⟨_, rfl⟩
  have hkn : k < n := by omega
  have hnm : n ≤ 128 := by omega
  have ir : (0 : Int) ≤ (r : Int) ∧ (r : Int) < (most : Int) := by omega
  have ik : (0 : Int) ≤ (k : Int) ∧ (k : Int) < (n : Int) := by omega
  have wk : IntKind.i64.wrap ((k : Int) + 1) = (k : Int) + 1 := by rw [IntKind.wrap_i64]; omega
  have HN := Lib.hid hn
  clear h hp hx hsub hk hn hkl
  go_enter Try.func18, Try.ntmps18
  go_wp2_with fail
  refine HP.out.mono ?_
  rintro e w1 ⟨rfl, o1⟩
  clear HP
  have H1 := SideU.only HH.out o1 (fun _ _ => id)
  obtain ⟨g, cap, hvv, hcap, hg, v1, v2⟩ := H1.at_ HX.out
  rw [← HN.out] at hvv hcap
  have c1 := H1.c1.cell
  rw [hvv] at c1
  have c2 := H1.c2.cell
  have zb := cell_lt c1
  have v2 := v2.cell
  have zg := cell_lt v2
  have u := (H1.us r hrm).cell
  have uf := (H1.us r hrm).free
  have zu := cell_lt u
  have HVV := Lib.hid hvv
  have O1 := Lib.hid o1
  have M2 : SideU (w1.setCell ⟨gu, r, none⟩ (.bool false)).drew b gu most sg hv L (fun n => if n = r then false else rowB L n) :=
    SideU.only (H1.mark r false) ((Only.refl (fun _ => False) _).drew) (fun _ _ => id)
  have O2 : Only (SdB b gu hv) w (w1.setCell ⟨gu, r, none⟩ (.bool false)).drew := ((Only.of_none o1).setCell (.inl (.inr (.inl rfl))) _).drew
  have ne1 : ¬ gu = b := fun e => H1.ne e.symm
  have HDEL := Lib.hid (lv_delete (w1.setCell ⟨gu, r, none⟩ (.bool false)).drew hv n k (lvV L) (by rw [HN.out]; exact M2.own) (by omega) hkn (lvV_one L))
  rw [hvv] at HDEL
  have HM2 := Lib.hid M2
  have HO2 := Lib.hid O2
  clear H1 hvv o1 v1 M2 O2
  go_wp2_with fail
  go_still_tail 13, (by kernel_rfl)
  go_wp2_with fail
  refine HDEL.out.mono ?_
  intro e w3 hpost
  obtain ⟨v', rfl, hown, hgr, hloc⟩ := hpost
  obtain ⟨a', cap', rfl, hcap'⟩ := own_slice hown
  have o3 : Only (fun i => hv.ownBlock = some i) _ w3 := Only.of_grown hgr (fun q e => by rw [HVV.out]; exact e)
  have hR := SideU.row HM2.out (L' := cutAt k L) (U' := rowB (cutAt k L)) o3 (by rw [cut_len (by rw [← HN.out]; exact hkn), cut_cells, ← HN.out]; exact hown) (by
    rw [HVV.out]
    rcases hloc with e | e
    · exact .inl e
    · exact .inr ⟨_, e, Nat.le_refl _⟩) (fun n _ => HROW.out n) HSRT.out HND.out (fun x hx => HH.out.lt x (HSUB.out.subset hx)) (fun x hx => HH.out.pr x (HSUB.out.subset hx)) (by rw [cut_len (by rw [← HN.out]; exact hkn)]; omega)
  have sb : ¬ hv.ownBlock = some b := fun e => (HH.out.sep b e).1 rfl
  have m1 := HM2.out.c1.only o3 sb
  have m1c := m1.cell
  have m1f := m1.free
  rw [HVV.out] at m1c
  have HR := Lib.hid hR
  clear hown hgr hloc o3 hR sb m1 HDEL
  go_wp2_with fail
  go_returns
  refine ⟨_, rfl, HR.out.1, HO2.out.trans HR.out.2.1, ?_⟩
  rcases HR.out.2.2 with e | ⟨g, e, hg⟩
  · exact .inl e
  · exact .inr ⟨g, e, Nat.le_trans HO2.out.size hg⟩

theorem s_find_no (h : SideAt w b gu most sg hv L) (p : Int) (hp : has p L = false) :
    Calls Try.prog 22 #[.pointer (some ⟨b, 0, none⟩), .int .i64 p] w fun e w' => e = .returned (.int .i64 (-1)) ∧ Only (fun _ => False) w w' := by
  have HP := Lib.hid (s_place h p)
  rw [hp] at HP
  generalize pos sg p L = k at *
  clear h hp
  go_enter Try.func22, Try.ntmps22
  go_wp2_with fail
  refine HP.out.mono ?_
  rintro e w1 ⟨rfl, o1⟩
  go_wp2_with fail
  go_returns
  exact ⟨rfl, o1⟩
theorem s_find (h : SideAt w b gu most sg hv L) (p : Int) (r : Nat) (hx : (p, r) ∈ L) :
    Calls Try.prog 22 #[.pointer (some ⟨b, 0, none⟩), .int .i64 p] w fun e w' => e = .returned (.int .i64 (r : Nat)) ∧ Only (fun _ => False) w w' := by
  obtain ⟨k, hx⟩ := List.mem_iff_getElem?.1 hx
  have hk := has_pos h.hsg h.srt hx rfl
  simp only at hk
  have hp : has p L = true := (has_at h.hsg h.srt).2 ⟨(p, r), by rw [← hk]; exact hx, rfl⟩
  have HP := Lib.hid (s_place h p)
  rw [hp, ← hk] at HP
  have hkl := (List.getElem?_eq_some_iff.1 hx).1
  obtain ⟨g, cap, hvv, hcap, hg, v1, v2⟩ := h.at_ hx
  have c1 := h.c1.cell
  rw [hvv] at c1
  have v2 := v2.cell
  have C1 := fun W (o : Only (fun _ => False) w W) => Lib.hid (o.cell c1 id)
  have V2 := fun W (o : Only (fun _ => False) w W) => Lib.hid (o.cell v2 id)
  generalize L.length = n at *
  have ik : (0 : Int) ≤ (k : Int) ∧ (k : Int) < (n : Int) := by omega
  clear h hp hx hk hvv v1 v2 c1
  go_enter Try.func22, Try.ntmps22
  go_wp2_with fail
  refine HP.out.mono ?_
  rintro e w1 ⟨rfl, o1⟩
  have c1 := (C1 w1 o1).out
  have v2 := (V2 w1 o1).out
  have z1 := cell_lt c1
  have z2 := cell_lt v2
  go_wp2_with fail
  go_returns
  exact ⟨rfl, o1⟩
theorem s_better (h : SideAt w b gu most sg hv L) (p : Int) :
    Calls Try.prog 21 #[.pointer (some ⟨b, 0, none⟩), .int .i64 p] w fun e w' => e = .returned (.int .i64 (pos sg p L : Nat)) ∧ Only (fun _ => False) w w' := by
  have HP := Lib.hid (s_place h p)
  generalize pos sg p L = k at *
  generalize has p L = q at *
  clear h
  go_enter Try.func21, Try.ntmps21
  go_wp2_with fail
  refine HP.out.mono ?_
  rintro e w1 ⟨rfl, o1⟩
  go_wp2_with fail
  go_returns
  exact ⟨rfl, o1⟩
theorem s_len (h : SideAt w b gu most sg hv L) :
    Calls Try.prog 19 #[.pointer (some ⟨b, 0, none⟩)] w fun e w' => e = .returned (.int .i64 (L.length : Nat)) ∧ w = w' := by
  have c1 := h.c1.cell
  obtain ⟨a, cap, hvv, hcap⟩ := own_slice h.own
  rw [hvv] at c1
  have z1 := cell_lt c1
  generalize L.length = n at *
  clear h hvv
  go_enter Try.func19, Try.ntmps19
  go_wp2_with fail
  go_returns
  exact ⟨rfl, rfl⟩
theorem s_at_no (h : SideAt w b gu most sg hv L) (i : Int) (hi : i < 0 ∨ (L.length : Int) ≤ i) :
    Calls Try.prog 20 #[.pointer (some ⟨b, 0, none⟩), .int .i64 i] w fun e w' => e = .returned (.tuple #[.int .i64 0, .bool false]) ∧ w = w' := by
  have c1 := h.c1.cell
  obtain ⟨a, cap, hvv, hcap⟩ := own_slice h.own
  rw [hvv] at c1
  have z1 := cell_lt c1
  generalize L.length = n at *
  clear h hvv
  by_cases h1 : i < 0
  · have t1 : decide (i < 0) = true := by simpa using h1
    clear hi
    go_enter Try.func20, Try.ntmps20
    go_wp2_with fail
    go_returns
    exact ⟨rfl, rfl⟩
  · have t1 : decide (i < 0) = false := by simpa using h1
    have t2 : decide ((n : Int) ≤ i) = true := by simp; omega
    clear hi
    go_enter Try.func20, Try.ntmps20
    go_wp2_with fail
    go_returns
    exact ⟨rfl, rfl⟩
theorem s_at (h : SideAt w b gu most sg hv L) (i : Nat) (x : Int × Nat) (hx : L[i]? = some x) :
    Calls Try.prog 20 #[.pointer (some ⟨b, 0, none⟩), .int .i64 (i : Nat)] w fun e w' => e = .returned (.tuple #[.int .i64 x.1, .bool true]) ∧ w = w' := by
  have hkl := (List.getElem?_eq_some_iff.1 hx).1
  obtain ⟨g, cap, hvv, hcap, hg, v1, v2⟩ := h.at_ hx
  have c1 := h.c1.cell
  rw [hvv] at c1
  have v1 := v1.cell
  have z1 := cell_lt c1
  have z2 := cell_lt v1
  generalize L.length = n at *
  have ik : (0 : Int) ≤ (i : Int) ∧ (i : Int) < (n : Int) := by omega
  have t1 : decide ((i : Int) < 0) = false := by simp
  have t2 : decide (n ≤ i) = false := by simp; omega
  have t2' : decide ((n : Int) ≤ (i : Int)) = false := by simp; omega
  obtain ⟨xp, xr⟩ := x
  simp only at v1
  clear h hx hvv v2
  go_enter Try.func20, Try.ntmps20
  go_wp2_with fail
  go_returns
  exact ⟨rfl, rfl⟩
/-- The best price; nought and false: none. -/
def bestV (L : List (Int × Nat)) : Value := match L with | [] => .tuple #[.int .i64 0, .bool false] | x :: _ => .tuple #[.int .i64 x.1, .bool true]
theorem s_best_no (h : SideAt w b gu most sg hv []) :
    Calls Try.prog 26 #[.pointer (some ⟨b, 0, none⟩)] w fun e w' => e = .returned (.tuple #[.int .i64 0, .bool false]) ∧ w = w' := by
  have HA := Lib.hid (s_at_no h 0 (.inr (by simp)))
  clear h
  go_enter Try.func26, Try.ntmps26
  go_wp2_with fail
  refine HA.out.mono ?_
  rintro e w1 ⟨rfl, rfl⟩
  go_wp2_with fail
  go_returns
  exact ⟨rfl, rfl⟩
theorem s_best (x : Int × Nat) (t : List (Int × Nat)) (h : SideAt w b gu most sg hv (x :: t)) :
    Calls Try.prog 26 #[.pointer (some ⟨b, 0, none⟩)] w fun e w' => e = .returned (.tuple #[.int .i64 x.1, .bool true]) ∧ w = w' := by
  have HA := Lib.hid (s_at h 0 x rfl)
  clear h
  obtain ⟨xp, xr⟩ := x
  go_enter Try.func26, Try.ntmps26
  go_wp2_with fail
  refine HA.out.mono ?_
  rintro e w1 ⟨rfl, rfl⟩
  go_wp2_with fail
  go_returns
  exact ⟨rfl, rfl⟩
end

/-! ### New -/
theorem s_new_no (w : World) (side most : Int) (h : most < 0 ∨ 128 < most) :
    Calls Try.prog 16 #[.int .u8 side, .int .i64 most] w fun e w' => e = .returned (.tuple #[.pointer none, .int .i64 1]) ∧ Only (fun _ => False) w w' := by
  by_cases h1 : most < 0
  · have t1 : decide (most < 0) = true := by simpa using h1
    clear h
    go_enter Try.func16, Try.ntmps16
    go_wp2_with fail
    go_returns
    exact ⟨rfl, by repeat' (first | (with_reducible exact Only.refl _ _) | (with_reducible assumption) | (refine Only.of_none ?_; with_reducible assumption) | (with_reducible refine Only.drewN ?_ _) | (with_reducible refine Only.drew ?_) | (with_reducible refine Only.alloc ?_ _) | (with_reducible refine Only.setCell ?_ ?_ _) | (with_reducible refine Only.then0 ?_ (by with_reducible assumption)) | (with_reducible refine Only.thenN ?_ (by with_reducible assumption) ?_) | (with_reducible refine Only.trans ?_ (by with_reducible assumption)) | (refine .inl ?_; first | rfl | (simp; done) | (simp [Ar.blk]; done)) | (refine .inr ?_; first | omega | (simp; done) | (simp; omega) | exact Only.size (by with_reducible assumption) | (refine Nat.le_trans (Only.size (by with_reducible assumption)) ?_; simp; done)))⟩
  · have t1 : decide (most < 0) = false := by simpa using h1
    have t2 : decide (128 < most) = true := by simp; omega
    clear h
    go_enter Try.func16, Try.ntmps16
    go_wp2_with fail
    go_returns
    exact ⟨rfl, by repeat' (first | (with_reducible exact Only.refl _ _) | (with_reducible assumption) | (refine Only.of_none ?_; with_reducible assumption) | (with_reducible refine Only.drewN ?_ _) | (with_reducible refine Only.drew ?_) | (with_reducible refine Only.alloc ?_ _) | (with_reducible refine Only.setCell ?_ ?_ _) | (with_reducible refine Only.then0 ?_ (by with_reducible assumption)) | (with_reducible refine Only.thenN ?_ (by with_reducible assumption) ?_) | (with_reducible refine Only.trans ?_ (by with_reducible assumption)) | (refine .inl ?_; first | rfl | (simp; done) | (simp [Ar.blk]; done)) | (refine .inr ?_; first | omega | (simp; done) | (simp; omega) | exact Only.size (by with_reducible assumption) | (refine Nat.le_trans (Only.size (by with_reducible assumption)) ?_; simp; done)))⟩

theorem Try.infoBool : (Try.prog.info? 4).map (fun i => (i.zero, i.size, i.bytes)) = some (some (.bool false), 1, 1) := by kernel_rfl

/-- What lies there behind New. -/
def SdNew (w : World) (most : Nat) (sg : Int) (e : Ending) (w' : World) : Prop :=
  ∃ b gu, e = .returned (.tuple #[.pointer (some ⟨b, 0, none⟩), .int .i64 0]) ∧ SideAt w' b gu most sg (.slice none 0 0) [] ∧ Only (fun _ => False) w w' ∧ w.heap.size ≤ b ∧ w.heap.size ≤ gu

theorem made_side {w : World} {b gu most : Nat} {sg : Int} (hc0 : Cell w b 0 (.int .i64 sg)) (hc1 : Cell w b 1 (.slice none 0 0)) (hc2 : Cell w b 2 (.slice (some ⟨gu, 0, none⟩) most most)) (hu : ∀ n, n < most → Cell w gu n (.bool false)) (hne : b ≠ gu) (hg : gu < w.heap.size) (hsg : sg = 1 ∨ sg = -1) (hm : most ≤ 128) : SideAt w b gu most sg (.slice none 0 0) [] :=
  ⟨hc0, hc1, hc2, (fun n hn => by unfold rowB; simpa using hu n hn), World.ownsRow_nil _ _ _ _, (fun g e => by cases e), hne, hsg, List.Pairwise.nil, List.nodup_nil, (fun x hx => by simp at hx), (fun x hx => by simp at hx), Nat.zero_le _, hm, hg⟩

set_option maxHeartbeats 1000000 in
theorem s_new_side (w : World) (side : Int) (most : Nat) (hm : most ≤ 128) (h1 : side ≠ 1) (h2 : side ≠ 2) :
    Calls Try.prog 16 #[.int .u8 side, .int .i64 most] w fun e w' => e = .returned (.tuple #[.pointer none, .int .i64 1]) ∧ Only (fun _ => False) w w' := by
  obtain ⟨i1, hi1, hz1, hs1, hb1⟩ := info_parts Try.infoBool
  have m1 := fun W => run_makeN (P := Try.prog) 33 4 i1 _ Try.underlying33 hi1 hz1 hs1 most (by rw [hb1]; omega) (by omega) W
  change ∀ W : World, _ = Result.ok _ (W.alloc (.cells (madeCells #[.bool false] (most * 1)) _)) at m1
  clear hi1 hz1 hs1 hb1
  have t1 : decide ((most : Int) < 0) = false := by simp
  have t2 : decide (128 < most) = false := by simp; omega
  have t2' : decide ((128 : Int) < (most : Int)) = false := by simp; omega
  have t3 : (side == 1) = false := by simpa using h1
  have t4 : (side == 2) = false := by simpa using h2
  clear h1 h2
  go_enter Try.func16, Try.ntmps16
  go_wp2_with fail
  go_returns
  exact ⟨rfl, by repeat' (first | (with_reducible exact Only.refl _ _) | (with_reducible assumption) | (refine Only.of_none ?_; with_reducible assumption) | (with_reducible refine Only.drewN ?_ _) | (with_reducible refine Only.drew ?_) | (with_reducible refine Only.alloc ?_ _) | (with_reducible refine Only.setCell ?_ ?_ _) | (with_reducible refine Only.then0 ?_ (by with_reducible assumption)) | (with_reducible refine Only.thenN ?_ (by with_reducible assumption) ?_) | (with_reducible refine Only.trans ?_ (by with_reducible assumption)) | (refine .inl ?_; first | rfl | (simp; done) | (simp [Ar.blk]; done)) | (refine .inr ?_; first | omega | (simp; done) | (simp; omega) | exact Only.size (by with_reducible assumption) | (refine Nat.le_trans (Only.size (by with_reducible assumption)) ?_; simp; done)))⟩

set_option maxHeartbeats 1000000 in
theorem s_new_sell (w : World) (most : Nat) (hm : most ≤ 128) :
    Calls Try.prog 16 #[.int .u8 2, .int .i64 most] w (SdNew w most 1) := by
  obtain ⟨i1, hi1, hz1, hs1, hb1⟩ := info_parts Try.infoBool
  have m1 := fun W => run_makeN (P := Try.prog) 33 4 i1 _ Try.underlying33 hi1 hz1 hs1 most (by rw [hb1]; omega) (by omega) W
  change ∀ W : World, _ = Result.ok _ (W.alloc (.cells (madeCells #[.bool false] (most * 1)) _)) at m1
  clear hi1 hz1 hs1 hb1
  have t1 : decide ((most : Int) < 0) = false := by simp
  have t2 : decide (128 < most) = false := by simp; omega
  have t2' : decide ((128 : Int) < (most : Int)) = false := by simp; omega
  go_enter Try.func16, Try.ntmps16
  go_wp2_with fail
  go_returns
  refine ⟨w.heap.size + 1, w.heap.size, rfl, ?_, by repeat' (first | (with_reducible exact Only.refl _ _) | (with_reducible assumption) | (refine Only.of_none ?_; with_reducible assumption) | (with_reducible refine Only.drewN ?_ _) | (with_reducible refine Only.drew ?_) | (with_reducible refine Only.alloc ?_ _) | (with_reducible refine Only.setCell ?_ ?_ _) | (with_reducible refine Only.then0 ?_ (by with_reducible assumption)) | (with_reducible refine Only.thenN ?_ (by with_reducible assumption) ?_) | (with_reducible refine Only.trans ?_ (by with_reducible assumption)) | (refine .inl ?_; first | rfl | (simp; done) | (simp [Ar.blk]; done)) | (refine .inr ?_; first | omega | (simp; done) | (simp; omega) | exact Only.size (by with_reducible assumption) | (refine Nat.le_trans (Only.size (by with_reducible assumption)) ?_; simp; done))), by omega, by omega⟩
  have hb := fun o v => Cell.new (w := w.alloc (.cells (madeCells #[.bool false] (most * 1)) 4)) (cs := #[.int .i64 1, .slice none 0 0, .slice (some ⟨w.heap.size, 0, none⟩) most most]) (t := 131) (o := o) (v := v)
  simp only [World.size_alloc, Nat.mul_one] at hb
  have hu : ∀ n, n < most → Cell ((w.alloc (.cells (madeCells #[.bool false] most) 4)).alloc (.cells #[.int .i64 1, .slice none 0 0, .slice (some ⟨w.heap.size, 0, none⟩) most most] 131)) w.heap.size n (.bool false) := fun n hn => (cells_made (heap_alloc_new w _) n hn).alloc _
  exact made_side (hb 0 _ rfl) (hb 1 _ rfl) (hb 2 _ rfl) hu (by omega) (by simp; omega) (.inl rfl) hm

set_option maxHeartbeats 1000000 in
theorem s_new_buy (w : World) (most : Nat) (hm : most ≤ 128) :
    Calls Try.prog 16 #[.int .u8 1, .int .i64 most] w (SdNew w most (-1)) := by
  obtain ⟨i1, hi1, hz1, hs1, hb1⟩ := info_parts Try.infoBool
  have m1 := fun W => run_makeN (P := Try.prog) 33 4 i1 _ Try.underlying33 hi1 hz1 hs1 most (by rw [hb1]; omega) (by omega) W
  change ∀ W : World, _ = Result.ok _ (W.alloc (.cells (madeCells #[.bool false] (most * 1)) _)) at m1
  clear hi1 hz1 hs1 hb1
  have t1 : decide ((most : Int) < 0) = false := by simp
  have t2 : decide (128 < most) = false := by simp; omega
  have t2' : decide ((128 : Int) < (most : Int)) = false := by simp; omega
  go_enter Try.func16, Try.ntmps16
  go_wp2_with fail
  go_returns
  refine ⟨w.heap.size + 1, w.heap.size, rfl, ?_, by repeat' (first | (with_reducible exact Only.refl _ _) | (with_reducible assumption) | (refine Only.of_none ?_; with_reducible assumption) | (with_reducible refine Only.drewN ?_ _) | (with_reducible refine Only.drew ?_) | (with_reducible refine Only.alloc ?_ _) | (with_reducible refine Only.setCell ?_ ?_ _) | (with_reducible refine Only.then0 ?_ (by with_reducible assumption)) | (with_reducible refine Only.thenN ?_ (by with_reducible assumption) ?_) | (with_reducible refine Only.trans ?_ (by with_reducible assumption)) | (refine .inl ?_; first | rfl | (simp; done) | (simp [Ar.blk]; done)) | (refine .inr ?_; first | omega | (simp; done) | (simp; omega) | exact Only.size (by with_reducible assumption) | (refine Nat.le_trans (Only.size (by with_reducible assumption)) ?_; simp; done))), by omega, by omega⟩
  have hb := fun o v => Cell.new (w := w.alloc (.cells (madeCells #[.bool false] (most * 1)) 4)) (cs := #[.int .i64 (-1), .slice none 0 0, .slice (some ⟨w.heap.size, 0, none⟩) most most]) (t := 131) (o := o) (v := v)
  simp only [World.size_alloc, Nat.mul_one] at hb
  have hu : ∀ n, n < most → Cell ((w.alloc (.cells (madeCells #[.bool false] most) 4)).alloc (.cells #[.int .i64 (-1), .slice none 0 0, .slice (some ⟨w.heap.size, 0, none⟩) most most] 131)) w.heap.size n (.bool false) := fun n hn => (cells_made (heap_alloc_new w _) n hn).alloc _
  exact made_side (hb 0 _ rfl) (hb 1 _ rfl) (hb 2 _ rfl) hu (by omega) (by simp; omega) (.inr rfl) hm
end Go.Proofs.Ytilngakgofjmpaa

/- Levels: the chapter's example (works), walked; Add and Drop, whatever they answer. Conditions: a side as its New lays it. -/
namespace Go.Proofs.Ytilngakgofjmpaa
set_option linter.unusedVariables false
set_option linter.unusedSimpArgs false
open Go.RowKit

/-- A side lies there, with some prices. -/
def AnyPost (b gu most : Nat) (sg : Int) (hv : Value) (w : World) (P : Ending → Prop) (e : Ending) (w' : World) : Prop :=
  ∃ hv' L', P e ∧ SideAt w' b gu most sg hv' L' ∧ Only (SdB b gu hv) w w' ∧ (hv'.ownBlock = hv.ownBlock ∨ ∃ g, hv'.ownBlock = some g ∧ w.heap.size ≤ g)

section
variable {w : World} {b gu most : Nat} {sg : Int} {hv : Value} {L : List (Int × Nat)}
theorem any_stay (h : SideAt w b gu most sg hv L) {P : Ending → Prop} {e : Ending} {w' : World} (he : P e) (o : Only (fun _ => False) w w') : AnyPost b gu most sg hv w P e w' :=
  ⟨hv, L, he, h.only o (fun _ _ => id), Only.of_none o, .inl rfl⟩
theorem any_add (h : SideAt w b gu most sg hv L) (p : Int) :
    Calls Try.prog 17 #[.pointer (some ⟨b, 0, none⟩), .int .i64 p] w (AnyPost b gu most sg hv w fun e => ∃ x y : Int, e = .returned (.tuple #[.int .i64 x, .int .i64 y])) := by
  by_cases h1 : p < 1 ∨ 1000000000 < p
  · exact (s_add_bad p h1).mono fun e w' ⟨he, hw⟩ => any_stay h ⟨_, _, he⟩ (hw ▸ Only.refl _ _)
  · cases hp : has p L with
    | true => exact (s_add_twice h p (by omega) (by omega) hp).mono fun e w' ⟨he, hw⟩ => any_stay h ⟨_, _, he⟩ hw
    | false =>
      rcases Nat.lt_or_ge L.length most with h2 | h2
      · obtain ⟨r, a1, a2, a3⟩ := free_row h2
        refine (s_add h p (by omega) (by omega) hp r a1 a2 a3 h2).mono fun e w' hq => ?_
        obtain ⟨hv', he, q1, q2, q3⟩ := hq
        exact ⟨hv', _, ⟨_, _, he⟩, q1, q2, q3⟩
      · exact (s_add_full h p (by omega) (by omega) hp h2).mono fun e w' ⟨he, hw⟩ => any_stay h ⟨_, _, he⟩ hw
theorem any_drop (h : SideAt w b gu most sg hv L) (p : Int) :
    Calls Try.prog 18 #[.pointer (some ⟨b, 0, none⟩), .int .i64 p] w (AnyPost b gu most sg hv w fun e => ∃ x : Int, e = .returned (.int .i64 x)) := by
  cases hp : has p L with
  | true =>
    obtain ⟨⟨q, r⟩, hx, hq⟩ := (has_at h.hsg h.srt).1 hp
    simp only at hq
    subst hq
    refine (s_drop h q _ rfl r hx).mono fun e w' hq => ?_
    obtain ⟨hv', he, q1, q2, q3⟩ := hq
    exact ⟨hv', _, ⟨_, he⟩, q1, q2, q3⟩
  | false => exact (s_drop_no h p hp).mono fun e w' ⟨he, hw⟩ => any_stay h ⟨_, he⟩ hw
end

/-- Where a side's blocks are all new. -/
theorem SdB.low {w0 w : World} {b gu : Nat} {hv hv' : Value} (h : ∀ i, SdB b gu hv i → w0.heap.size ≤ i) (hw : w0.heap.size ≤ w.heap.size) (hl : hv'.ownBlock = hv.ownBlock ∨ ∃ g, hv'.ownBlock = some g ∧ w.heap.size ≤ g) : ∀ i, SdB b gu hv' i → w0.heap.size ≤ i := fun i hi => by
  rcases hi with e | e | e
  · exact h i (.inl e)
  · exact h i (.inr (.inl e))
  · rcases hl with e' | ⟨g, e', hg⟩
    · exact h i (.inr (.inr (by rw [← e']; exact e)))
    · rw [e'] at e; injection e with e; omega
theorem Only.thenS {S T : Nat → Prop} {a w w' : World} (h : Only T a w) (o : Only S w w') (hS : ∀ i, S i → a.heap.size ≤ i) : Only T a w' := h.trans' o fun i hi hs => by have := hS i hs; omega

def exL1 : List (Int × Nat) := [(10, 0)]
def exL2 : List (Int × Nat) := [(12, 1), (10, 0)]
def exL3 : List (Int × Nat) := [(12, 1), (11, 2), (10, 0)]
def exL4 : List (Int × Nat) := [(11, 2), (10, 0)]
def exL5 : List (Int × Nat) := [(11, 2), (10, 0), (9, 1)]

set_option maxHeartbeats 4000000 in
set_option maxRecDepth 100000 in
theorem works_walk (w : World) : Calls Try.prog 15 #[] w fun e w' => e = .returned (.bool true) ∧ Only (fun _ => False) w w' := by
  have S0 := fun W => Lib.hid (show Calls Try.prog 16 #[.int .u8 1, .int .i64 3] W (SdNew W 3 (-1)) from s_new_buy W 3 (by decide))
  go_enter Try.func15, Try.ntmps15
  go_wp2_with fail
  refine (S0 _).out.mono ?_
  intro e w1 hq
  obtain ⟨b, gu, rfl, H0, o0, g1, g2⟩ := hq
  have K1 := Lib.hid (s_add H0 10 (by decide) (by decide) (by decide) 0 (by decide) (by decide) (fun k hk => by omega) (by decide))
  rw [show put (-1) 10 0 [] = exL1 by decide] at K1
  have hl0 : ∀ i, SdB b gu (.slice none 0 0) i → w.heap.size ≤ i := fun i hi => by rcases hi with e | e | e; omega; omega; cases e
  have HL0 := Lib.hid hl0
  clear H0 hl0
  go_wp2_with fail
  refine K1.out.mono ?_
  intro e w2 hq
  obtain ⟨v1, rfl, H1, o1, f1⟩ := hq
  have n1 := o0.size
  have HL1 := Lib.hid (SdB.low HL0.out n1 f1)
  have p1 := o0.thenS o1 HL0.out
  have K2 := Lib.hid (s_add H1 12 (by decide) (by decide) (by decide) 1 (by decide) (by decide) (fun k hk => by rw [show k = 0 by omega]; decide) (by decide))
  rw [show put (-1) 12 1 exL1 = exL2 by decide] at K2
  clear H1 K1 f1
  go_wp2_with fail
  refine K2.out.mono ?_
  intro e w3 hq
  obtain ⟨v2, rfl, H2, o2, f2⟩ := hq
  have n2 := p1.size
  have HL2 := Lib.hid (SdB.low HL1.out n2 f2)
  have p2 := p1.thenS o2 HL1.out
  have K3 := Lib.hid (s_add H2 11 (by decide) (by decide) (by decide) 2 (by decide) (by decide) (fun k hk => by
    have : k = 0 ∨ k = 1 := by omega
    rcases this with rfl | rfl <;> decide) (by decide))
  rw [show put (-1) 11 2 exL2 = exL3 by decide] at K3
  clear H2 K2 f2
  go_wp2_with fail
  refine K3.out.mono ?_
  intro e w4 hq
  obtain ⟨v3, rfl, H3, o3, f3⟩ := hq
  have n3 := p2.size
  have HL3 := Lib.hid (SdB.low HL2.out n3 f3)
  have p3 := p2.thenS o3 HL2.out
  have HH3 := Lib.hid H3
  have K4 := Lib.hid (s_add_full H3 9 (by decide) (by decide) (by decide) (by decide))
  clear H3 K3 f3
  go_wp2_with fail
  refine K4.out.mono ?_
  rintro e w5 ⟨rfl, o4⟩
  have H4 := Lib.hid (SideU.only HH3.out o4 (fun _ _ => id))
  have p4 := p3.then0 o4
  have K5 := Lib.hid (s_best (12, 1) [(11, 2), (10, 0)] H4.out)
  have K6 := Lib.hid (s_at H4.out 1 (11, 2) rfl)
  have K7 := Lib.hid (s_better H4.out 11)
  rw [show pos (-1) 11 exL3 = 1 by decide] at K7
  simp only at K5 K6
  clear K4
  go_wp2_with fail
  refine K5.out.mono ?_
  rintro e w6 ⟨rfl, rfl⟩
  go_wp2_with fail
  refine K6.out.mono ?_
  rintro e w7 ⟨rfl, rfl⟩
  go_wp2_with fail
  refine K7.out.mono ?_
  rintro e w8 ⟨rfl, o8⟩
  have H8 := Lib.hid (SideU.only H4.out o8 (fun _ _ => id))
  have p8 := p4.then0 o8
  have K8 := Lib.hid (s_drop H8.out 12 0 (by decide) 1 rfl)
  rw [show cutAt 0 exL3 = exL4 by decide] at K8
  clear K5 K6 K7
  go_wp2_with fail
  refine K8.out.mono ?_
  intro e w9 hq
  obtain ⟨v9, rfl, H9, o9, f9⟩ := hq
  have n9 := p8.size
  have HL9 := Lib.hid (SdB.low HL3.out n9 f9)
  have p9 := p8.thenS o9 HL3.out
  have K9 := Lib.hid (s_add H9 9 (by decide) (by decide) (by decide) 1 (by decide) (by decide) (fun k hk => by rw [show k = 0 by omega]; decide) (by decide))
  clear H9 K8 f9
  go_wp2_with fail
  refine K9.out.mono ?_
  intro e w10 hq
  obtain ⟨v10, rfl, H10, o10, f10⟩ := hq
  have p10 := p9.thenS o10 HL9.out
  clear H10 K9 f10
  go_wp2_with fail
  go_returns
  exact ⟨rfl, p10⟩
end Go.Proofs.Ytilngakgofjmpaa

/- Levels: Upto, a range over a function: its contract. Conditions: a side as its New lays it. -/
namespace Go.Proofs.Ytilngakgofjmpaa
set_option linter.unusedVariables false
set_option linter.unusedSimpArgs false
open Go.RowKit Go.Shelf
attribute [local go_sem] Oper.semAt_some

/-- What a round is handed: a price and its row. -/
abbrev Lvl := Int × Nat
def encU (x : Lvl) : Array Value := #[.int .i64 x.1, .int .i64 (x.2 : Nat)]
/-- The prices that are as good as a limit. -/
def uptoL (sg lim : Int) (L : List Lvl) : List Lvl := if lim = 0 then L else if has lim L then L.take (pos sg lim L + 1) else L.take (pos sg lim L)

theorem Only.grown0 {W W' : World} (o : Only (fun _ => False) W W') : W.grownBy W' none := ⟨o.os, o.tape, o.output, o.size, fun k hk _ => o.block k hk id⟩

set_option maxRecDepth 100000 in
set_option maxHeartbeats 4000000 in
theorem upto_zero (n : Nat) (hn : 1 ≤ n) (l Bs Bl b gu most : Nat) (sg lim : Int) (hv : Value) (L : List Lvl) (hlim : lim = 0) (J Jx : List Lvl → World → Prop) (hab : ∀ s W W', J s W → W.grownBy W' none → J s W')
    (hY : ∀ pre x W, J pre W → pre.length < L.length → YieldAt Fence.wide (n - 1) Try.prog l (encU x) W fun e W' =>
      (e = .returned (.bool true) ∧ J (pre ++ [x]) W' ∧ KeepB (SdB b gu hv) W W') ∨ (e = .returned (.bool false) ∧ Jx (pre ++ [x]) W'))
    (W : World) (hBs : W.cell? ⟨Bs, 0, none⟩ = some (.pointer (some ⟨b, 0, none⟩))) (hBl : W.cell? ⟨Bl, 0, none⟩ = some (.int .i64 lim)) (h : SideAt W b gu most sg hv L) (h0 : J [] W) :
    CallsIn Fence.wide n Try.prog 65 #[.func (.yield l) #[] #[], .pointer (some ⟨Bs, 0, none⟩), .pointer (some ⟨Bl, 0, none⟩)] W fun e W' => (∃ v, e = .returned v) ∧
      ((∃ ys, ys = L ∧ J ys W') ∨ (∃ pre, pre <+: L ∧ Jx pre W')) := by
  have hln := h.len
  have hsm := h.small
  subst hlim
  obtain ⟨m, hm⟩ : ∃ m, m = L.length := ⟨_, rfl⟩
  have hml : m ≤ L.length := by omega
  have hm0 := hm
  obtain ⟨U, hU⟩ : ∃ U, U = L := ⟨_, rfl⟩
  rw [← hU] at hm
  have hsub : U <+: L := by rw [hU]; first | exact List.prefix_refl _ | exact List.take_prefix _ _
  obtain ⟨a, cap, hvv, hcap⟩ := own_slice h.own
  have c1 := h.c1.cell
  rw [hvv] at c1
  obtain ⟨N, hN⟩ : ∃ N, N = L.length := ⟨_, rfl⟩
  obtain rfl : m = N := by rw [hN, hm0]
  rw [← hN] at c1 hml hcap hln hvv
  have zs := cell_lt hBs
  have zl := cell_lt hBl
  have zb := cell_lt c1
  have b1 : (0 : Int) ≤ (m : Int) := by omega
  have b2 : (m : Int) ≤ (cap : Int) := by omega
  simp only [← hU] at hY ⊢
  have HY := Lib.hid hY
  have HAB := Lib.hid hab
  have HSUB := Lib.hid hsub
  have HM := Lib.hid hm
  have HH := Lib.hid h
  have HVV := Lib.hid hvv
  have HNN := Lib.hid hN
  clear hY hab hsub hm hU h hvv hN
  refine callsIn_of_wp Try.func65 rfl trivial ?_ rfl
  simp only [Try.ntmps65, List.size_toArray, List.length_cons, List.length_nil, Nat.reduceAdd, Nat.reduceSub, Array.replicate_succ, Array.replicate_zero, List.push_toArray, List.append_toArray, List.nil_append, List.cons_append]
  gi_wp2
  have oP := Only.refl (fun _ => False) W
  gi_loopw [33] (fun s wr => ∃ (pre rest : List Lvl), U = pre ++ rest ∧ s = .int .i64 (pre.length : Nat) ∧ J pre wr ∧ KeepB (SdB b gu hv) W wr) (fun s _ => m - (intOf s).toNat)
  case atStart => exact ⟨[], U, rfl, rfl, HAB.out _ _ _ h0 oP.grown0, KeepB.only oP fun i hi => ⟨HH.out.blk i hi, id⟩⟩
  case round =>
    obtain ⟨pre, rest, hs, rfl, hJs, hk⟩ := hrel
    have hml2 : m = pre.length + rest.length := by rw [HM.out, hs, List.length_append]
    cases rest with
    | nil =>
      have e1 : pre.length = m := by rw [hml2]; rfl
      have hUp : U = pre := by rw [hs, List.append_nil]
      subst hUp
      rw [e1]
      have HJS := Lib.hid hJs
      clear e1 hs hml2 hJs hk
      gi_wp2
      go_end0
      exact ⟨⟨_, rfl⟩, .inl ⟨_, rfl, HJS.out⟩⟩
    | cons x t =>
      obtain ⟨p, hp⟩ : ∃ p, p = pre.length := ⟨_, rfl⟩
      have hpm2 : p < m := by rw [hml2, hp]; simp
      have hx : L[p]? = some x := by
        obtain ⟨r, hr⟩ := HSUB.out
        rw [← hr, hs, hp]; simp
      obtain ⟨g, cap', e, _, hg, v1, v2⟩ := HH.out.at_ hx
      rw [HVV.out, ← HNN.out] at e
      obtain ⟨rfl, rfl⟩ : a = some ⟨g, 0, none⟩ ∧ cap = cap' := by injection e with e1 e2 e3; exact ⟨e1, e3⟩
      have hgS : SdB b gu hv g := .inr (.inr (by rw [HVV.out]; rfl))
      have v1 := (v1.blk (hk g hgS)).cell
      have v2 := (v2.blk (hk g hgS)).cell
      have zg := cell_lt v1
      have t2 : decide (p < m) = true := by simpa using hpm2
      have i1 : (0 : Int) ≤ (p : Int) ∧ (p : Int) < (m : Int) := by omega
      have w1 : IntKind.i64.wrap ((p : Int) + 1) = (p : Int) + 1 := by rw [IntKind.wrap_i64]; omega
      have o1 := (Only.refl (fun _ => False) wr).alloc (.cells #[.int .i64 x.1, .int .i64 (x.2 : Nat)] 137)
      obtain ⟨fn, tmps, assign, body, hy, hR⟩ := HY.out pre x _ (HAB.out _ _ _ hJs o1.grown0) (by rw [← HM.out, ← hp]; exact hpm2)
      unfold encU at hy
      try dsimp only at hy
      have hkS : KeepB (SdB b gu hv) wr (wr.alloc (.cells #[.int .i64 x.1, .int .i64 (x.2 : Nat)] 137)) := KeepB.only o1 fun i hi => ⟨lt_of_blk (HH.out.blk i hi) (hk i hi), id⟩
      have HKS := Lib.hid hkS
      have HS := Lib.hid hs
      have HK := Lib.hid hk
      have HJS := Lib.hid hJs
      have HPP := Lib.hid hp
      rw [← hp]
      clear hs hk hJs hml2 hx e hgS hkS o1 hpm2 hp
      obtain ⟨xp, xr⟩ := x
      simp only at v1 v2 hy hR
      gi_wp2
      refine hR.mono ?_
      rintro e W3 (⟨rfl, hJ3, hk3⟩ | ⟨rfl, hJx3⟩)
      · gi_wp2
        go_roundw
        case rel => exact ⟨pre ++ [(xp, xr)], t, by rw [HS.out]; simp, by rw [List.length_append, ← HPP.out]; rfl, hJ3, (HK.out.trans HKS.out).trans hk3⟩
        case measure => simp [intOf]; omega
      · gi_wp2
        refine bodyPost_ret (results_none rfl _ _ _) rfl ?_
        exact ⟨⟨_, rfl⟩, .inr ⟨_, ⟨t, by rw [HS.out]; simp⟩, hJx3⟩⟩

set_option maxRecDepth 100000 in
set_option maxHeartbeats 4000000 in
theorem upto_has (n : Nat) (hn : 1 ≤ n) (l Bs Bl b gu most : Nat) (sg lim : Int) (hv : Value) (L : List Lvl) (hlim : lim ≠ 0) (hh : has lim L = true) (J Jx : List Lvl → World → Prop) (hab : ∀ s W W', J s W → W.grownBy W' none → J s W')
    (hY : ∀ pre x W, J pre W → pre.length < (L.take (pos sg lim L + 1)).length → YieldAt Fence.wide (n - 1) Try.prog l (encU x) W fun e W' =>
      (e = .returned (.bool true) ∧ J (pre ++ [x]) W' ∧ KeepB (SdB b gu hv) W W') ∨ (e = .returned (.bool false) ∧ Jx (pre ++ [x]) W'))
    (W : World) (hBs : W.cell? ⟨Bs, 0, none⟩ = some (.pointer (some ⟨b, 0, none⟩))) (hBl : W.cell? ⟨Bl, 0, none⟩ = some (.int .i64 lim)) (h : SideAt W b gu most sg hv L) (h0 : J [] W) :
    CallsIn Fence.wide n Try.prog 65 #[.func (.yield l) #[] #[], .pointer (some ⟨Bs, 0, none⟩), .pointer (some ⟨Bl, 0, none⟩)] W fun e W' => (∃ v, e = .returned v) ∧
      ((∃ ys, ys = (L.take (pos sg lim L + 1)) ∧ J ys W') ∨ (∃ pre, pre <+: (L.take (pos sg lim L + 1)) ∧ Jx pre W')) := by
  have hln := h.len
  have hsm := h.small
  have t1 : (lim != 0) = true := by simpa using hlim
  obtain ⟨m, hm⟩ : ∃ m, m = (L.take (pos sg lim L + 1)).length := ⟨_, rfl⟩
  have hml : m ≤ L.length := by rw [hm]; exact List.length_take_le' _ _
  have hpm : (pos sg lim L : Int) + 1 = (m : Int) := by
    obtain ⟨x, hx, _⟩ := (has_at h.hsg h.srt).1 hh
    have := (List.getElem?_eq_some_iff.1 hx).1
    rw [hm, List.length_take]; omega
  have wp1 : IntKind.i64.wrap ((pos sg lim L : Int) + 1) = (m : Int) := by rw [IntKind.wrap_i64]; omega
  have HP := Lib.hid (callsIn_wide (n := n - 1).2 (s_place h lim))
  rw [hh] at HP
  obtain ⟨U, hU⟩ : ∃ U, U = (L.take (pos sg lim L + 1)) := ⟨_, rfl⟩
  rw [← hU] at hm
  have hsub : U <+: L := by rw [hU]; first | exact List.prefix_refl _ | exact List.take_prefix _ _
  obtain ⟨a, cap, hvv, hcap⟩ := own_slice h.own
  have c1 := h.c1.cell
  rw [hvv] at c1
  obtain ⟨N, hN⟩ : ∃ N, N = L.length := ⟨_, rfl⟩
  rw [← hN] at c1 hml hcap hln hvv
  have zs := cell_lt hBs
  have zl := cell_lt hBl
  have zb := cell_lt c1
  have b1 : (0 : Int) ≤ (m : Int) := by omega
  have b2 : (m : Int) ≤ (cap : Int) := by omega
  simp only [← hU] at hY ⊢
  have HY := Lib.hid hY
  have HAB := Lib.hid hab
  have HSUB := Lib.hid hsub
  have HM := Lib.hid hm
  have HH := Lib.hid h
  have HVV := Lib.hid hvv
  have HNN := Lib.hid hN
  clear hY hab hsub hm hU h hvv hN
  refine callsIn_of_wp Try.func65 rfl trivial ?_ rfl
  simp only [Try.ntmps65, List.size_toArray, List.length_cons, List.length_nil, Nat.reduceAdd, Nat.reduceSub, Array.replicate_succ, Array.replicate_zero, List.push_toArray, List.append_toArray, List.nil_append, List.cons_append]
  gi_wp2_with fail
  refine ⟨trivial, ?_⟩
  refine HP.out.mono ?_
  rintro e w' ⟨rfl, oP⟩
  have hBs' := oP.cell hBs id
  have c1' := oP.cell c1 id
  have zs' := cell_lt hBs'
  have zb' := cell_lt c1'
  clear HP
  gi_wp2
  gi_loopw [33] (fun s wr => ∃ (pre rest : List Lvl), U = pre ++ rest ∧ s = .int .i64 (pre.length : Nat) ∧ J pre wr ∧ KeepB (SdB b gu hv) W wr) (fun s _ => m - (intOf s).toNat)
  case atStart => exact ⟨[], U, rfl, rfl, HAB.out _ _ _ h0 oP.grown0, KeepB.only oP fun i hi => ⟨HH.out.blk i hi, id⟩⟩
  case round =>
    obtain ⟨pre, rest, hs, rfl, hJs, hk⟩ := hrel
    have hml2 : m = pre.length + rest.length := by rw [HM.out, hs, List.length_append]
    cases rest with
    | nil =>
      have e1 : pre.length = m := by rw [hml2]; rfl
      have hUp : U = pre := by rw [hs, List.append_nil]
      subst hUp
      rw [e1]
      have HJS := Lib.hid hJs
      clear e1 hs hml2 hJs hk
      gi_wp2
      go_end0
      exact ⟨⟨_, rfl⟩, .inl ⟨_, rfl, HJS.out⟩⟩
    | cons x t =>
      obtain ⟨p, hp⟩ : ∃ p, p = pre.length := ⟨_, rfl⟩
      have hpm2 : p < m := by rw [hml2, hp]; simp
      have hx : L[p]? = some x := by
        obtain ⟨r, hr⟩ := HSUB.out
        rw [← hr, hs, hp]; simp
      obtain ⟨g, cap', e, _, hg, v1, v2⟩ := HH.out.at_ hx
      rw [HVV.out, ← HNN.out] at e
      obtain ⟨rfl, rfl⟩ : a = some ⟨g, 0, none⟩ ∧ cap = cap' := by injection e with e1 e2 e3; exact ⟨e1, e3⟩
      have hgS : SdB b gu hv g := .inr (.inr (by rw [HVV.out]; rfl))
      have v1 := (v1.blk (hk g hgS)).cell
      have v2 := (v2.blk (hk g hgS)).cell
      have zg := cell_lt v1
      have t2 : decide (p < m) = true := by simpa using hpm2
      have i1 : (0 : Int) ≤ (p : Int) ∧ (p : Int) < (m : Int) := by omega
      have w1 : IntKind.i64.wrap ((p : Int) + 1) = (p : Int) + 1 := by rw [IntKind.wrap_i64]; omega
      have o1 := (Only.refl (fun _ => False) wr).alloc (.cells #[.int .i64 x.1, .int .i64 (x.2 : Nat)] 137)
      obtain ⟨fn, tmps, assign, body, hy, hR⟩ := HY.out pre x _ (HAB.out _ _ _ hJs o1.grown0) (by rw [← HM.out, ← hp]; exact hpm2)
      unfold encU at hy
      try dsimp only at hy
      have hkS : KeepB (SdB b gu hv) wr (wr.alloc (.cells #[.int .i64 x.1, .int .i64 (x.2 : Nat)] 137)) := KeepB.only o1 fun i hi => ⟨lt_of_blk (HH.out.blk i hi) (hk i hi), id⟩
      have HKS := Lib.hid hkS
      have HS := Lib.hid hs
      have HK := Lib.hid hk
      have HJS := Lib.hid hJs
      have HPP := Lib.hid hp
      rw [← hp]
      clear hs hk hJs hml2 hx e hgS hkS o1 hpm2 hp
      obtain ⟨xp, xr⟩ := x
      simp only at v1 v2 hy hR
      gi_wp2
      refine hR.mono ?_
      rintro e W3 (⟨rfl, hJ3, hk3⟩ | ⟨rfl, hJx3⟩)
      · gi_wp2
        go_roundw
        case rel => exact ⟨pre ++ [(xp, xr)], t, by rw [HS.out]; simp, by rw [List.length_append, ← HPP.out]; rfl, hJ3, (HK.out.trans HKS.out).trans hk3⟩
        case measure => simp [intOf]; omega
      · gi_wp2
        refine bodyPost_ret (results_none rfl _ _ _) rfl ?_
        exact ⟨⟨_, rfl⟩, .inr ⟨_, ⟨t, by rw [HS.out]; simp⟩, hJx3⟩⟩

set_option maxRecDepth 100000 in
set_option maxHeartbeats 4000000 in
theorem upto_no (n : Nat) (hn : 1 ≤ n) (l Bs Bl b gu most : Nat) (sg lim : Int) (hv : Value) (L : List Lvl) (hlim : lim ≠ 0) (hh : has lim L = false) (J Jx : List Lvl → World → Prop) (hab : ∀ s W W', J s W → W.grownBy W' none → J s W')
    (hY : ∀ pre x W, J pre W → pre.length < (L.take (pos sg lim L)).length → YieldAt Fence.wide (n - 1) Try.prog l (encU x) W fun e W' =>
      (e = .returned (.bool true) ∧ J (pre ++ [x]) W' ∧ KeepB (SdB b gu hv) W W') ∨ (e = .returned (.bool false) ∧ Jx (pre ++ [x]) W'))
    (W : World) (hBs : W.cell? ⟨Bs, 0, none⟩ = some (.pointer (some ⟨b, 0, none⟩))) (hBl : W.cell? ⟨Bl, 0, none⟩ = some (.int .i64 lim)) (h : SideAt W b gu most sg hv L) (h0 : J [] W) :
    CallsIn Fence.wide n Try.prog 65 #[.func (.yield l) #[] #[], .pointer (some ⟨Bs, 0, none⟩), .pointer (some ⟨Bl, 0, none⟩)] W fun e W' => (∃ v, e = .returned v) ∧
      ((∃ ys, ys = (L.take (pos sg lim L)) ∧ J ys W') ∨ (∃ pre, pre <+: (L.take (pos sg lim L)) ∧ Jx pre W')) := by
  have hln := h.len
  have hsm := h.small
  have t1 : (lim != 0) = true := by simpa using hlim
  obtain ⟨m, hm⟩ : ∃ m, m = (L.take (pos sg lim L)).length := ⟨_, rfl⟩
  have hml : m ≤ L.length := by rw [hm]; exact List.length_take_le' _ _
  have hpm : pos sg lim L = m := by have := pos_le sg lim L; rw [hm, List.length_take]; omega
  have HP := Lib.hid (callsIn_wide (n := n - 1).2 (s_place h lim))
  rw [hh, hpm] at HP
  obtain ⟨U, hU⟩ : ∃ U, U = (L.take (pos sg lim L)) := ⟨_, rfl⟩
  rw [← hU] at hm
  have hsub : U <+: L := by rw [hU]; first | exact List.prefix_refl _ | exact List.take_prefix _ _
  obtain ⟨a, cap, hvv, hcap⟩ := own_slice h.own
  have c1 := h.c1.cell
  rw [hvv] at c1
  obtain ⟨N, hN⟩ : ∃ N, N = L.length := ⟨_, rfl⟩
  rw [← hN] at c1 hml hcap hln hvv
  have zs := cell_lt hBs
  have zl := cell_lt hBl
  have zb := cell_lt c1
  have b1 : (0 : Int) ≤ (m : Int) := by omega
  have b2 : (m : Int) ≤ (cap : Int) := by omega
  simp only [← hU] at hY ⊢
  have HY := Lib.hid hY
  have HAB := Lib.hid hab
  have HSUB := Lib.hid hsub
  have HM := Lib.hid hm
  have HH := Lib.hid h
  have HVV := Lib.hid hvv
  have HNN := Lib.hid hN
  clear hY hab hsub hm hU h hvv hN
  refine callsIn_of_wp Try.func65 rfl trivial ?_ rfl
  simp only [Try.ntmps65, List.size_toArray, List.length_cons, List.length_nil, Nat.reduceAdd, Nat.reduceSub, Array.replicate_succ, Array.replicate_zero, List.push_toArray, List.append_toArray, List.nil_append, List.cons_append]
  gi_wp2_with fail
  refine ⟨trivial, ?_⟩
  refine HP.out.mono ?_
  rintro e w' ⟨rfl, oP⟩
  have hBs' := oP.cell hBs id
  have c1' := oP.cell c1 id
  have zs' := cell_lt hBs'
  have zb' := cell_lt c1'
  clear HP
  gi_wp2
  gi_loopw [33] (fun s wr => ∃ (pre rest : List Lvl), U = pre ++ rest ∧ s = .int .i64 (pre.length : Nat) ∧ J pre wr ∧ KeepB (SdB b gu hv) W wr) (fun s _ => m - (intOf s).toNat)
  case atStart => exact ⟨[], U, rfl, rfl, HAB.out _ _ _ h0 oP.grown0, KeepB.only oP fun i hi => ⟨HH.out.blk i hi, id⟩⟩
  case round =>
    obtain ⟨pre, rest, hs, rfl, hJs, hk⟩ := hrel
    have hml2 : m = pre.length + rest.length := by rw [HM.out, hs, List.length_append]
    cases rest with
    | nil =>
      have e1 : pre.length = m := by rw [hml2]; rfl
      have hUp : U = pre := by rw [hs, List.append_nil]
      subst hUp
      rw [e1]
      have HJS := Lib.hid hJs
      clear e1 hs hml2 hJs hk
      gi_wp2
      go_end0
      exact ⟨⟨_, rfl⟩, .inl ⟨_, rfl, HJS.out⟩⟩
    | cons x t =>
      obtain ⟨p, hp⟩ : ∃ p, p = pre.length := ⟨_, rfl⟩
      have hpm2 : p < m := by rw [hml2, hp]; simp
      have hx : L[p]? = some x := by
        obtain ⟨r, hr⟩ := HSUB.out
        rw [← hr, hs, hp]; simp
      obtain ⟨g, cap', e, _, hg, v1, v2⟩ := HH.out.at_ hx
      rw [HVV.out, ← HNN.out] at e
      obtain ⟨rfl, rfl⟩ : a = some ⟨g, 0, none⟩ ∧ cap = cap' := by injection e with e1 e2 e3; exact ⟨e1, e3⟩
      have hgS : SdB b gu hv g := .inr (.inr (by rw [HVV.out]; rfl))
      have v1 := (v1.blk (hk g hgS)).cell
      have v2 := (v2.blk (hk g hgS)).cell
      have zg := cell_lt v1
      have t2 : decide (p < m) = true := by simpa using hpm2
      have i1 : (0 : Int) ≤ (p : Int) ∧ (p : Int) < (m : Int) := by omega
      have w1 : IntKind.i64.wrap ((p : Int) + 1) = (p : Int) + 1 := by rw [IntKind.wrap_i64]; omega
      have o1 := (Only.refl (fun _ => False) wr).alloc (.cells #[.int .i64 x.1, .int .i64 (x.2 : Nat)] 137)
      obtain ⟨fn, tmps, assign, body, hy, hR⟩ := HY.out pre x _ (HAB.out _ _ _ hJs o1.grown0) (by rw [← HM.out, ← hp]; exact hpm2)
      unfold encU at hy
      try dsimp only at hy
      have hkS : KeepB (SdB b gu hv) wr (wr.alloc (.cells #[.int .i64 x.1, .int .i64 (x.2 : Nat)] 137)) := KeepB.only o1 fun i hi => ⟨lt_of_blk (HH.out.blk i hi) (hk i hi), id⟩
      have HKS := Lib.hid hkS
      have HS := Lib.hid hs
      have HK := Lib.hid hk
      have HJS := Lib.hid hJs
      have HPP := Lib.hid hp
      rw [← hp]
      clear hs hk hJs hml2 hx e hgS hkS o1 hpm2 hp
      obtain ⟨xp, xr⟩ := x
      simp only at v1 v2 hy hR
      gi_wp2
      refine hR.mono ?_
      rintro e W3 (⟨rfl, hJ3, hk3⟩ | ⟨rfl, hJx3⟩)
      · gi_wp2
        go_roundw
        case rel => exact ⟨pre ++ [(xp, xr)], t, by rw [HS.out]; simp, by rw [List.length_append, ← HPP.out]; rfl, hJ3, (HK.out.trans HKS.out).trans hk3⟩
        case measure => simp [intOf]; omega
      · gi_wp2
        refine bodyPost_ret (results_none rfl _ _ _) rfl ?_
        exact ⟨⟨_, rfl⟩, .inr ⟨_, ⟨t, by rw [HS.out]; simp⟩, hJx3⟩⟩

/-- Upto's value gives the prices that are as good as the limit, the best first. -/
theorem upto_stops (n : Nat) (hn : 1 ≤ n) (w : World) (Bs Bl b gu most : Nat) (sg lim : Int) (hv : Value) (L : List Lvl) (hBs : w.cell? ⟨Bs, 0, none⟩ = some (.pointer (some ⟨b, 0, none⟩))) (hBl : w.cell? ⟨Bl, 0, none⟩ = some (.int .i64 lim)) (h : SideAt w b gu most sg hv L) :
    SeqStopsK Fence.wide n Try.prog 65 #[.pointer (some ⟨Bs, 0, none⟩), .pointer (some ⟨Bl, 0, none⟩)] encU (KeepB (SdB b gu hv)) (fun ys => ys = uptoL sg lim L) (fun pre => pre <+: uptoL sg lim L) (uptoL sg lim L).length w := fun l J Jx W hW hJ _ hY h0 => by
  have o : Only (fun _ => False) w W := Only.of_below hW
  have e1 := o.cell hBs id
  have e2 := o.cell hBl id
  have e3 : SideAt W b gu most sg hv L := SideU.only h o (fun _ _ => id)
  have hab : ∀ s A B, J s A → A.grownBy B none → J s B := fun s A B hs hg => hJ s A B none hs hg (fun r e => by cases e)
  by_cases h1 : lim = 0
  · have e : uptoL sg lim L = L := by unfold uptoL; rw [if_pos h1]
    rw [e] at hY ⊢
    exact upto_zero n hn l Bs Bl b gu most sg lim hv L h1 J Jx hab hY W e1 e2 e3 h0
  · cases h2 : has lim L with
    | true =>
      have e : uptoL sg lim L = L.take (pos sg lim L + 1) := by unfold uptoL; rw [if_neg h1, if_pos h2]
      rw [e] at hY ⊢
      exact upto_has n hn l Bs Bl b gu most sg lim hv L h1 h2 J Jx hab hY W e1 e2 e3 h0
    | false =>
      have e : uptoL sg lim L = L.take (pos sg lim L) := by unfold uptoL; rw [if_neg h1, if_neg (by rw [h2]; decide)]
      rw [e] at hY ⊢
      exact upto_no n hn l Bs Bl b gu most sg lim hv L h1 h2 J Jx hab hY W e1 e2 e3 h0

theorem s_upto (w : World) (b : Nat) (lim : Int) :
    Calls Try.prog 23 #[.pointer (some ⟨b, 0, none⟩), .int .i64 lim] w fun e w' => e = .returned (.func (.func 65) #[] #[.pointer (some ⟨w.heap.size, 0, none⟩), .pointer (some ⟨w.heap.size + 1, 0, none⟩)]) ∧ w' = (w.alloc (.cells #[.pointer (some ⟨b, 0, none⟩)] 25)).alloc (.cells #[.int .i64 lim] 2) := by
  go_enter Try.func23, Try.ntmps23
  go_wp2
  go_returns
  first | exact ⟨rfl, rfl⟩ | (simp; done)
end Go.Proofs.Ytilngakgofjmpaa
