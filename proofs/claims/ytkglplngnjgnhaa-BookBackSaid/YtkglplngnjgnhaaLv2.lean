/- Levels: the library's Insert over rows of prices, walked. Conditions: a row of one's own; one element, in a block of its own. -/
import Derived.Test.YtkglplngnjgnhaaLv1
import Derived.Test.YtkglplngnjgnhaaRows
namespace Go.Proofs.Ytkglplngnjgnhaa
set_option linter.unusedVariables false
set_option linter.unusedSimpArgs false
open Go.RowKit

theorem Try.infoLevel : (Try.prog.info? 110).map (fun i => (i.zero, i.size, i.bytes)) = some (some (.agg #[.int .i64 0, .int .i64 0]), 2, 16) := by kernel_rfl

/-- A row is another one: where it lies. -/
def RowPost (w : World) (v : Value) (n : Nat) (xs : List Value) (e : Ending) (w' : World) : Prop :=
  ∃ v', e = .returned v' ∧ w'.ownsRow 0 110 2 v' n xs ∧ w.grownBy w' v.ownBlock ∧ (v'.ownBlock = v.ownBlock ∨ v'.ownBlock = some w.heap.size)

theorem grownBy_setRow (w : World) (g : Nat) (cs : Array Value) : w.grownBy (w.setRow g cs) (some g) :=
  ⟨rfl, rfl, rfl, by simp, fun k hk hne => setRow_other w g k cs (fun e => hne (by rw [e]))⟩
theorem grownBy_drew {a b : World} {row : Option Nat} (h : a.grownBy b row) : a.grownBy b.drew row := ⟨h.os, h.tape, h.output, h.size, h.block⟩
theorem drew_heap (w : World) : w.drew.heap = w.heap := rfl

set_option maxHeartbeats 4000000 in
set_option maxRecDepth 100000 in
theorem lv_insert_end (w : World) (v : Value) (n : Nat) (xs : List Value) (hown : w.ownsRow 0 110 2 v n xs) (hn : n ≤ 65536) (vb : Nat) (x y : Value) (hv : w.heap[vb]? = some (.cells #[x, y] 110 (0, 0))) (hx : x.oneCell' = true) (hy : y.oneCell' = true) :
    Calls Try.prog 43 #[v, .int .i64 n, .slice (some ⟨vb, 0, none⟩) 1 1] w (RowPost w v (n + 1) (xs ++ [x, y])) := by
  obtain ⟨i3, hi3, hz3, hs3, hb3⟩ := info_parts Try.infoLevel
  have hn1 : ∀ j u, [x, y][j]? = some u → w.cell? ((⟨vb, 0, none⟩ : Addr).add j) = some u := World.news_of_block hv
  have ho1 : ∀ u ∈ [x, y], u.oneCell' = true := by intro u hu; simp at hu; rcases hu with rfl | rfl <;> assumption
  have HOWN := Lib.hid hown
  have HN1 := Lib.hid hn1
  have HO1 := Lib.hid ho1
  obtain ⟨a, cap, rfl, hcap⟩ := own_slice hown
  clear hown hn1 ho1 hv hx hy
  have b1 : (n : Int) ≤ (cap : Int) := by omega
  by_cases hc : cap = n
  · subst hc
    go_enter Try.func43, Try.ntmps43
    go_wp2_with (at_builtin; refine wpList_append_own_at _ rfl (.tmp 23) (.tmp 24) 102 rfl 0 110 i3 (.agg #[.int .i64 0, .int .i64 0]) 2 16 Try.underlying102 hi3 hz3 hs3 hb3 rfl (by decide) (.slice a cap cap) cap xs rfl HOWN.out ⟨vb, 0, none⟩ 1 1 [x, y] rfl rfl HN1.out HO1.out (by unfold maxLen; omega) (by omega) (Nat.zero_le _) ?_; intro v1 w2 hown1 hgrow1 hnil1 hat1; have HP := Lib.hid (show RowPost w (.slice a cap cap) (cap + 1) (xs ++ [x, y]) (.returned v1) w2 from ⟨v1, rfl, hown1, hgrow1, hat1⟩); clear hown1 hgrow1 hnil1 hat1)
    go_returns
    exact HP.out
  · have hc' : ¬ ((cap : Int) = (n : Int)) := by omega
    go_enter Try.func43, Try.ntmps43
    go_wp2_with (at_builtin; refine wpList_append_own_at _ rfl (.tmp 23) (.tmp 24) 102 rfl 0 110 i3 (.agg #[.int .i64 0, .int .i64 0]) 2 16 Try.underlying102 hi3 hz3 hs3 hb3 rfl (by decide) (.slice a n cap) n xs rfl HOWN.out ⟨vb, 0, none⟩ 1 1 [x, y] rfl rfl HN1.out HO1.out (by unfold maxLen; omega) (by omega) (Nat.zero_le _) ?_; intro v1 w2 hown1 hgrow1 hnil1 hat1; have HP := Lib.hid (show RowPost w (.slice a n cap) (n + 1) (xs ++ [x, y]) (.returned v1) w2 from ⟨v1, rfl, hown1, hgrow1, hat1⟩); clear hown1 hgrow1 hnil1 hat1)
    go_returns
    exact HP.out
end Go.Proofs.Ytkglplngnjgnhaa
