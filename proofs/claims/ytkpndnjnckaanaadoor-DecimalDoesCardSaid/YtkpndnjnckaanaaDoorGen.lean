/- General words: rows, makes, marks, appends. No condition. -/
import Derived.Test.YtkpndnjnckaanaaDoorKit2
import Derived.Test.YtkpndnjnckaanaaDoorFlat2
import Derived.Laws.MakeOwn
import Derived.Laws.OwnMore
import Derived.Laws.AppendOwn
import Derived.Laws.Tables
import Derived.Maps.AppendAt
import Derived.Deep.AppendLies
import Derived.Deep.RegionLaw
import Derived.RangeFuncNested
import Derived.RangeFuncBound
import Derived.RangeFuncCalls
import Derived.RangeFuncLeaves
import Derived.Shelf.Abstract
import Derived.Shelf.RegionOpen
import Derived.OwnWalkIn
import Derived.TacticsInMore
import Derived.LoopNIn
import Derived.LoopIn
import Derived.BigRegion
import Derived.StillTailTactics
namespace Go.Proofs.YtkpndnjnckaanaaDoor
set_option linter.unusedVariables false
set_option linter.unusedSimpArgs false
open Go.RowKit Go.Shelf

def upd {α : Type} (f : Nat → α) (k : Nat) (v : α) : Nat → α := fun i => if i = k then v else f i
theorem upd_same {α : Type} (f : Nat → α) (k : Nat) (v : α) : upd f k v k = v := if_pos rfl
theorem upd_other {α : Type} {f : Nat → α} {k i : Nat} {v : α} (h : i ≠ k) : upd f k v i = f i := if_neg h
theorem cell_of_blk {w : World} {g : Nat} {cs : List Value} {t : TypeId} (h : w.heap[g]? = some (.cells cs.toArray t (0, 0))) {i : Nat} {v : Value} (hi : cs[i]? = some v) : Cell w g i v :=
  ⟨by unfold World.cell?; simp only [h]; simpa using hi, by unfold World.frozen?; simp only [h]; simp⟩
theorem run_makeN {P : Program} (t e : TypeId) (i : TypeInfo) (z : Value) (ht : P.underlying t = some (.slice e)) (hi : P.info? e = some i) (hz : i.zero = some z) {s : Nat} (hs : i.size = s)
    (n : Nat) (hbytes : i.bytes * n ≤ 281474976710656) (h63 : n ≤ 9223372036854775807) (w : World) :
    (Instr.makeSlice t (.int .i64 (n : Int)) (.int .i64 (n : Int))).run P w = .ok (.slice (some ⟨w.heap.size, 0, none⟩) n n) (w.alloc (.cells (madeCells z.cells (n * s)) e)) := by
  have hb : (i.bytes : Int) * (n : Int) ≤ 281474976710656 := by
    have h : ((i.bytes * n : Nat) : Int) ≤ 281474976710656 := by omega
    rwa [Int.natCast_mul] at h
  have hr := run_make (P := P) w t e i z ht hi hz .i64 .i64 n n (by omega) (by omega) hb (by omega)
  simp only [Int.toNat_natCast, hs] at hr
  exact hr
theorem hp_new {w : World} {o : Obj} {k : Nat} (h : k = w.heap.size) : (w.alloc o).heap[k]? = some o := by subst h; exact heap_alloc_new w o
theorem hp_old {w : World} {x : Obj} {k : Nat} (h : w.heap[k]? = some x) (o : Obj) : (w.alloc o).heap[k]? = some x := (Below.heap_alloc w o k (Array.getElem?_eq_some_iff.1 h).1).trans h
theorem hp_drew {w : World} {x : Obj} {k : Nat} (h : w.heap[k]? = some x) : w.drew.heap[k]? = some x := h
theorem hp_drewN {w : World} {x : Obj} {k : Nat} (h : w.heap[k]? = some x) (n : Nat) : (w.drewN n).heap[k]? = some x := h
theorem made_at {z : Array Value} {s n i j : Nat} {v : Value} (hs : z.size = s) (hi : i < n) (hj : z[j]? = some v) : (madeCells z (n * s)).toList[i * s + j]? = some v := by
  have hjs : j < s := by rw [← hs]; exact (Array.getElem?_eq_some_iff.1 hj).1
  have hlt : i * s + j < n * s := by
    have : (i + 1) * s ≤ n * s := Nat.mul_le_mul_right _ hi
    rw [Nat.add_mul] at this; omega
  have hm : (i * s + j) % s = j := by rw [Nat.mul_comm, Nat.mul_add_mod]; exact Nat.mod_eq_of_lt hjs
  have e1 : z[(i * s + j) % z.size]! = v := by
    rw [hs, hm, getElem!_def, hj]
  simp only [madeCells, Array.toList_map, List.getElem?_map, Array.toList_range, List.getElem?_range hlt, Option.map_some, e1]
theorem ownsRow_only {w w' : World} {S : Nat → Prop} {base : Nat} {e : TypeId} {size : Nat} {v : Value} {n : Nat} {xs : List Value} (h : w.ownsRow base e size v n xs) (k : Only S w w') (hS : ∀ i, base ≤ i → ¬ S i) : w'.ownsRow base e size v n xs := by
  refine ⟨h.1, ?_⟩
  rcases h.2 with hn | ⟨g, cap, cur, rfl, hb, hgg, rest⟩
  · exact .inl hn
  · exact .inr ⟨g, cap, cur, rfl, hb, (k.block g (Array.getElem?_eq_some_iff.1 hgg).1 (hS g hb)).trans hgg, rest⟩
theorem own_cell {w : World} {base : Nat} {e : TypeId} {size : Nat} {v : Value} {n : Nat} {xs : List Value} (h : w.ownsRow base e size v n xs) (hn : 0 < n) : ∃ g cap, v = .slice (some ⟨g, 0, none⟩) n cap ∧ n ≤ cap ∧ base ≤ g ∧ g < w.heap.size ∧ ∀ j u, xs[j]? = some u → Cell w g j u := by
  rcases h.2 with ⟨_, e⟩ | ⟨g, cap, cur, rfl, hb, hgg, h1, h2, h3, h4⟩
  · omega
  · refine ⟨g, cap, rfl, h1, hb, (Array.getElem?_eq_some_iff.1 hgg).1, fun j u hu => ?_⟩
    have hc := h.cells rfl j u hu
    rw [show (⟨g, 0, none⟩ : Addr).add j = ⟨g, j, none⟩ by unfold Addr.add; split <;> simp_all] at hc
    exact ⟨hc, by simp [World.frozen?, hgg]⟩
theorem own_slice {w : World} {base : Nat} {e : TypeId} {size : Nat} {v : Value} {n : Nat} {xs : List Value} (h : w.ownsRow base e size v n xs) : ∃ a cap, v = .slice a n cap ∧ n ≤ cap := by
  rcases h.2 with ⟨rfl, rfl⟩ | ⟨g, cap, cur, rfl, _, _, h1, _⟩
  · exact ⟨_, _, rfl, Nat.le_refl _⟩
  · exact ⟨_, _, rfl, h1⟩
theorem Only.of_grown {w w' : World} {row : Option Nat} {S : Nat → Prop} (hg : w.grownBy w' row) (hr : ∀ r, row = some r → S r) : Only S w w' :=
  ⟨hg.os, hg.tape, hg.output, hg.size, fun i hi hs => hg.block i hi (fun e => hs (hr i e.symm))⟩
theorem cell_pair_new (w : World) (x y : Value) (t : TypeId) : ∀ j u, [x, y][j]? = some u → (w.alloc (.cells #[x, y] t)).cell? ((⟨w.heap.size, 0, none⟩ : Addr).add j) = some u := by
  intro j u h
  rw [show (⟨w.heap.size, 0, none⟩ : Addr).add j = ⟨w.heap.size, j, none⟩ by unfold Addr.add; split <;> simp_all]
  exact (Cell.new (cs := #[x, y]) (by simpa using h)).cell
/-- An append onto a slice of one's own, at a step of a region that draws its order. -/
theorem step_append_own_at {P : Program} {w : World} {ops : Array Oper} {o : Oper} {a : Act} {K : Act → World → Prop} {Q : Exit → Act → World → Prop} {E : Prop} (hgd : o.guard = none) (s x : Operand) (t : TypeId)
    (ho : o.op = .call { callee := .builtin .append, args := #[s, x], argTypes := #[t, t] })
    (base : Nat) (e : TypeId) (i : TypeInfo) (z : Value) (size bytes : Nat) (ht : P.underlying t = some (.slice e)) (hi : P.info? e = some i) (hz : i.zero = some z)
    (hsize : i.size = size) (hby : i.bytes = bytes) (hzs : z.cells.size = size) (hsz : 0 < size)
    (v : Value) (n : Nat) (xs : List Value) (hs : a.eval s = v) (hown : w.ownsRow base e size v n xs)
    (ad : Addr) (m c : Nat) (news : List Value) (hx : a.eval x = .slice (some ad) m c) (hl : news.length = m * size) (hnews : ∀ j u, news[j]? = some u → w.cell? (ad.add j) = some u) (h1 : ∀ u ∈ news, u.oneCell' = true)
    (h63 : n + m ≤ maxLen) (hbytes : (n + m) * bytes ≤ 140737488355328) (hbase : base ≤ w.heap.size)
    (h : ∀ v' w', w'.ownsRow base e size v' (n + m) (xs ++ news) → w.grownBy w' v.ownBlock → (v'.ownBlock = v.ownBlock ∨ v'.ownBlock = some w.heap.size) → K (a.put o.dst v') w') :
    if Region.wanted o (yielded ops a.tmps) = true then Oper.wp P o a w K Q else E := by
  have hw : Region.wanted o (yielded ops a.tmps) = true := by simp [Region.wanted, hgd]
  rw [if_pos hw]
  obtain ⟨v', w', hr, h2, h3, h4, h5⟩ := run_append_own_at (P := P) w base t o.type e i z size bytes ht hi hz hsize hby hzs hsz v n xs hown ad m c news hl hnews h1 h63 hbytes hbase
  unfold Oper.wp execOp
  simp only [ho, resolve, invoke, builtin, Sem.run_bind, Sem.run_pure, Result.andThen_ok, List.map_toArray, List.map_cons, List.map_nil, hs, hx, hr]
  exact h v' w' h2 h3 h5
theorem own_block {w : World} {base : Nat} {e : TypeId} {size : Nat} {v : Value} {n : Nat} {xs : List Value} (h : w.ownsRow base e size v n xs) : v.ownBlock = none ∨ ∃ g, v.ownBlock = some g ∧ base ≤ g := by
  rcases h.2 with ⟨rfl, _⟩ | ⟨g, cap, cur, rfl, hb, _⟩
  · exact .inl rfl
  · exact .inr ⟨g, rfl, hb⟩
theorem cells_made {w : World} {g k : Nat} {z : Value} {t : TypeId} (h : w.heap[g]? = some (.cells (madeCells #[z] k) t (0, 0))) : ∀ i, i < k → Cell w g i z := fun i hi => by
  rw [show madeCells #[z] k = (madeCells #[z] k).toList.toArray by simp, toList_madeCells_one] at h
  exact cell_of_blk h (by simp [hi])
/-- These blocks lie as they lay. -/
def KeepB (S : Nat → Prop) (W W' : World) : Prop := ∀ i, S i → W'.heap[i]? = W.heap[i]?
theorem KeepB.refl (S : Nat → Prop) (W : World) : KeepB S W W := fun _ _ => rfl
theorem KeepB.trans {S : Nat → Prop} {A B C : World} (h : KeepB S A B) (k : KeepB S B C) : KeepB S A C := fun i hi => (k i hi).trans (h i hi)
theorem KeepB.put {S : Nat → Prop} {w : World} (hS : ∀ i, S i → i < w.heap.size) (W : World) (l : Nat) (o o' : Obj) (hl : w.heap.size ≤ l) (_ : W.heap[l]? = some o) (_ : o.isCells = false) (_ : o.isWalk = false) : KeepB S W (W.putObj l o') :=
  fun i hi => World.putObj_heap_other (by have := hS i hi; omega)
theorem KeepB.only {S T : Nat → Prop} {W W' : World} (h : Only T W W') (hS : ∀ i, S i → i < W.heap.size ∧ ¬ T i) : KeepB S W W' := fun i hi => h.block i (hS i hi).1 (hS i hi).2
theorem Cell.blk {W W' : World} {b o : Nat} {v : Value} (h : Cell W b o v) (e : W'.heap[b]? = W.heap[b]?) : Cell W' b o v := ⟨(World.cell?_of_block e).trans h.cell, (World.frozen?_of_block e).trans h.free⟩
theorem lt_of_blk {W W' : World} {b : Nat} (h : b < W.heap.size) (e : W'.heap[b]? = W.heap[b]?) : b < W'.heap.size := by
  rcases Nat.lt_or_ge b W'.heap.size with h1 | h1
  · exact h1
  · rw [Array.getElem?_eq_none h1, Array.getElem?_eq_getElem h] at e; cases e
theorem Only.grown {S : Nat → Prop} {a w w' : World} {row : Option Nat} (h : Only S a w) (hg : w.grownBy w' row) (hr : ∀ r, row = some r → a.heap.size ≤ r) : Only S a w' :=
  ⟨hg.os.trans h.os, hg.tape.trans h.tape, hg.output.trans h.output, Nat.le_trans h.size hg.size, fun i hi hs => (hg.block i (Nat.lt_of_lt_of_le hi h.size) (fun e => by have := hr i e.symm; omega)).trans (h.block i hi hs)⟩
theorem Cell.grown {w w' : World} {row : Option Nat} {b o : Nat} {v : Value} (h : Cell w b o v) (hg : w.grownBy w' row) (hr : ∀ r, row = some r → b < r) : Cell w' b o v :=
  h.blk (hg.block b h.lt (fun e => by have := hr b e.symm; omega))
theorem keepsFrom_of_only {T : Nat → Prop} {B : Nat} {W W' : World} (h : Only T W W') (hT : ∀ i, T i → i < B) : KeepsFrom B W W' :=
  ⟨h.size, fun k o hB hk _ => (h.block k (Array.getElem?_eq_some_iff.1 hk).1 (fun ht => by have := hT k ht; omega)).trans hk⟩
theorem Only.putObj {S : Nat → Prop} {a w : World} (h : Only S a w) {l : Nat} (hl : S l ∨ a.heap.size ≤ l) (o : Obj) : Only S a (w.putObj l o) := by
  refine ⟨h.os, h.tape, h.output, ?_, fun i hi hs => ?_⟩
  · have := (grownBy_putObj' w l o).size
    exact Nat.le_trans h.size this
  · refine (World.putObj_heap_other ?_).trans (h.block i hi hs)
    rintro rfl
    rcases hl with h1 | h1
    · exact hs h1
    · omega
def marks (Ds : List Nat) : List Deferred := Ds.map fun D => { target := .collected D, args := #[] }
theorem leaves_marks {F : Fence} {n : Nat} {P : Program} {fn : Func} {tmps : Array Value} {R : Ending → World → Prop} : ∀ (Ds : List Nat) (w : World), Ds.Nodup → (∀ D ∈ Ds, w.heap[D]? = some (.deferred (some []))) →
    (∀ w', Only (· ∈ Ds) w w' → LeavesInM F n P fn tmps R [] .returning w') → LeavesInM F n P fn tmps R (marks Ds) .returning w := by
  intro Ds
  induction Ds with
  | nil => intro w _ _ h; exact h w (Only.refl _ _)
  | cons D Ds ih =>
    intro w hn hD h
    have h2 := List.nodup_cons.1 hn
    refine ⟨by simp, .inl ⟨D, _, rfl, run_takeDeferred (hD D (by simp)), ?_⟩⟩
    refine ih _ h2.2 (fun E hE => ?_) (fun w' ho => h w' ?_)
    · rw [World.putObj_heap_other (fun e => h2.1 (by rw [← e]; exact hE))]; exact hD E (by simp [hE])
    · refine Only.trans ((Only.refl _ w).putObj (.inl (by simp)) _) (ho.mono fun i _ hi => by simp [hi])
theorem Only.setRow {S : Nat → Prop} {a w : World} (h : Only S a w) {g : Nat} (hg : S g ∨ a.heap.size ≤ g) (cs : Array Value) : Only S a (w.setRow g cs) :=
  ⟨h.os, h.tape, h.output, by rw [size_setRow]; exact h.size, fun i hi hs => (setRow_other w g i cs (by
    rintro rfl
    rcases hg with h1 | h1
    · exact hs h1
    · omega)).trans (h.block i hi hs)⟩
/-- Whole numbers that came in. -/
theorem SliceIn.ints {w : World} {a : Option Addr} {len cap : Nat} {rows : List (List Value)} (h : SliceIn w a len cap [.i .i64] rows) :
    ∃ (xs : Nat → Int) (B off : Nat), (0 < len → a = some ⟨B, off, none⟩ ∧ B < w.heap.size) ∧ ∀ k, k < len → w.cell? ⟨B, off + k, none⟩ = some (.int .i64 (xs k)) ∧ (Lit.int .i64 (xs k)).wf = true := by
  by_cases h0 : 0 < len
  · obtain ⟨B, off, ha, hB, hc⟩ := h.at_ h0 (by decide)
    have hx : ∀ k, ∃ x : Int, k < len → rows[k]? = some [.int .i64 x] ∧ (Lit.int .i64 x).wf = true := by
      intro k
      by_cases hk : k < len
      · obtain ⟨r, hr⟩ : ∃ r, rows[k]? = some r := ⟨_, List.getElem?_eq_getElem (by rw [h.1]; exact hk)⟩
        obtain ⟨x, _, rfl, hw, hf⟩ := fits_i (h.2.1 r (List.mem_of_getElem? hr))
        obtain rfl := fits_nil hf
        exact ⟨x, fun _ => ⟨hr, hw⟩⟩
      · exact ⟨0, fun h => absurd h hk⟩
    refine ⟨fun k => (hx k).choose, B, off, fun _ => ⟨ha, hB⟩, fun k hk => ?_⟩
    obtain ⟨h1, h2⟩ := (hx k).choose_spec hk
    have h3 := hc k _ h1 0 _ rfl
    simp only [List.length_cons, List.length_nil, Nat.zero_add, Nat.mul_one, Nat.add_zero] at h3
    exact ⟨h3, h2⟩
  · exact ⟨fun _ => 0, 0, 0, fun h => absurd h h0, fun k hk => by omega⟩
end Go.Proofs.YtkpndnjnckaanaaDoor
