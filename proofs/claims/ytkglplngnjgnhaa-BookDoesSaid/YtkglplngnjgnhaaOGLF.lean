/- What comes out is its owner's: lists of levels. Conditions: at most 2000000000000 lists of one's own, apart, of at most 2^36 feeds each. -/
import Derived.Test.YtkglplngnjgnhaaJ6
import Derived.Test.YtkglplngnjgnhaaRows
import Derived.Laws.AppendOwn
namespace Go.Proofs.Ytkglplngnjgnhaa.OwL
open Go.RowKit Go.Proofs.Ytkglplngnjgnhaa
set_option linter.unusedVariables false
set_option linter.unusedSimpArgs false

theorem infoA_EltL : (Try.prog.info? 94).map (fun i => (i.zero, i.size, i.bytes)) = some (some (.agg #[.int .i64 0, .int .i64 0, .int .i64 0]), 3, 24) := by kernel_rfl
theorem infoA_EltsL : (Try.prog.info? 90).map (fun i => (i.zero, i.size, i.bytes)) = some (some (.slice none 0 0), 1, 24) := by kernel_rfl




/-- A mark. -/
def mkE (z : Int) : List Value := [Value.int .i64 0, .int .i64 0, .int .i64 (z)]
/-- The marks of a list, and those behind it. -/
def rowA (i k : Nat) : List Value := (List.range k).flatMap fun (j : Nat) => mkE ((i : Int) * 1000 + j)
def rowB (i k : Nat) : List Value := (List.range k).flatMap fun (j : Nat) => mkE ((-1 - (i : Int)) * 1000 - j)
theorem rowA_succ (i k : Nat) : rowA i (k + 1) = rowA i k ++ mkE ((i : Int) * 1000 + k) := by simp [rowA, List.range_succ]
theorem rowB_succ (i k : Nat) : rowB i (k + 1) = rowB i k ++ mkE ((-1 - (i : Int)) * 1000 - k) := by simp [rowB, List.range_succ]
theorem rowA_len (i k : Nat) : (rowA i k).length = k * 3 := by
  induction k with
  | zero => rfl
  | succ k ih => rw [rowA_succ, List.length_append, ih]; simp [mkE]; omega
theorem rowB_len (i k : Nat) : (rowB i k).length = k * 3 := by
  induction k with
  | zero => rfl
  | succ k ih => rw [rowB_succ, List.length_append, ih]; simp [mkE]; omega
theorem rowA_at (i : Nat) {j k : Nat} (h : j < k) {c : Nat} (hc : c < 3) : (rowA i k)[j * 3 + c]? = (mkE ((i : Int) * 1000 + j))[c]? := by
  induction k with
  | zero => omega
  | succ k ih =>
    rw [rowA_succ]
    by_cases e : j = k
    · subst e
      rw [List.getElem?_append_right (by rw [rowA_len]; omega), rowA_len]
      congr 1; omega
    · rw [List.getElem?_append_left (by rw [rowA_len]; omega)]
      exact ih (by omega)
theorem rowB_at (i : Nat) {j k : Nat} (h : j < k) {c : Nat} (hc : c < 3) : (rowB i k)[j * 3 + c]? = (mkE ((-1 - (i : Int)) * 1000 - j))[c]? := by
  induction k with
  | zero => omega
  | succ k ih =>
    rw [rowB_succ]
    by_cases e : j = k
    · subst e
      rw [List.getElem?_append_right (by rw [rowB_len]; omega), rowB_len]
      congr 1; omega
    · rw [List.getElem?_append_left (by rw [rowB_len]; omega)]
      exact ih (by omega)

/-- Lists of one's own, and where they lie. -/
structure OwnIn (w0 : World) (gl m : Nat) (hv : Nat → Value) (n : Nat → Nat) : Prop where
  hg : gl < w0.heap.size
  hs : ∀ r, r < m → ∀ g, (hv r).ownBlock = some g → g < w0.heap.size ∧ g ≠ gl
  ap : ∀ r s, r < m → s < m → r ≠ s → ∀ g, (hv r).ownBlock = some g → (hv s).ownBlock ≠ some g
  bn : ∀ r, r < m → n r ≤ 68719476736
  hm : m ≤ 2000000000000
def HB (m : Nat) (hv : Nat → Value) (g : Nat) : Prop := ∃ r, r < m ∧ (hv r).ownBlock = some g

/-- While they are written over. -/
structure O1 (w0 w : World) (gl m : Nat) (hv : Nat → Value) (n : Nat → Nat) (i k : Nat) : Prop where
  heads : ∀ r, r < m → w.cell? ⟨gl, r, none⟩ = some (hv r)
  own : ∀ r, r < m → ∃ xs, w.ownsRow 0 94 3 (hv r) (n r) xs ∧ (r < i → xs = rowA r (n r)) ∧ (r = i → xs.take (k * 3) = rowA r k)
  only : Only (HB m hv) w0 w

theorem Only_of_grown {w w' : World} {row : Option Nat} (hg : w.grownBy w' row) : Only (fun g => some g = row) w w' :=
  ⟨hg.os, hg.tape, hg.output, hg.size, fun i hi hs => hg.block i hi hs⟩

section
variable {w0 w : World} {gl m : Nat} {hv : Nat → Value} {n : Nat → Nat} (hI : OwnIn w0 gl m hv n)
include hI
theorem O1.next {i : Nat} (h : O1 w0 w gl m hv n i (n i)) : O1 w0 w gl m hv n (i + 1) 0 := by
  have _ := hI
  refine ⟨h.heads, fun r hr => ?_, h.only⟩
  obtain ⟨xs, h1, h2, h3⟩ := h.own r hr
  refine ⟨xs, h1, fun hlt => ?_, fun _ => by simp [rowA]⟩
  rcases Nat.lt_or_ge r i with e | e
  · exact h2 e
  · obtain rfl : r = i := by omega
    have := h3 rfl
    rwa [List.take_of_length_le (by rw [h1.1]; exact Nat.le_refl _)] at this
theorem O1.spot {i k : Nat} (h : O1 w0 w gl m hv n i k) (hi : i < m) (hk : k < n i) : ∃ g cap, hv i = .slice (some ⟨g, 0, none⟩) (n i) cap ∧ n i ≤ cap ∧ g < w.heap.size ∧ g ≠ gl ∧
    (∀ c, c < 3 → ∃ u, w.cell? ⟨g, k * 3 + c, none⟩ = some u ∧ w.frozen? ⟨g, k * 3 + c, none⟩ = false) := by
  obtain ⟨xs, h1, _, _⟩ := h.own i hi
  obtain ⟨g, cap, e, h2, _, h3, h4⟩ := ownC h1 (by omega)
  have hgl := (hI.hs i hi g (by rw [e]; rfl)).2
  refine ⟨g, cap, e, h2, h3, hgl, fun c hc => ?_⟩
  have hlt : k * 3 + c < xs.length := by rw [h1.1]; omega
  have := h4 (k * 3 + c) xs[k * 3 + c] (List.getElem?_eq_getElem hlt)
  exact ⟨_, this.cell, this.free⟩
theorem O1.set {i k g : Nat} (h : O1 w0 w gl m hv n i k) (hi : i < m) (hk : k < n i) (hg : (hv i).ownBlock = some g) :
    O1 w0 (((w.setCell ⟨g, k * 3, none⟩ (.int .i64 0)).setCell ⟨g, k * 3 + 1, none⟩ (.int .i64 0)).setCell ⟨g, k * 3 + 2, none⟩ (.int .i64 ((i : Int) * 1000 + k))) gl m hv n i (k + 1) := by
  have hgl := (hI.hs i hi g hg).2
  have hB : HB m hv g := ⟨i, hi, hg⟩
  refine ⟨fun r hr => ?_, fun r hr => ?_, (((h.only.setCell (p := ⟨g, k * 3, none⟩) (.inl hB) _).setCell (p := ⟨g, k * 3 + 1, none⟩) (.inl hB) _).setCell (p := ⟨g, k * 3 + 2, none⟩) (.inl hB) _)⟩
  · rw [← h.heads r hr]
    simp only [World.cell?]
    rw [Below.heap_setCell _ _ _ _ (by exact Ne.symm hgl), Below.heap_setCell _ _ _ _ (by exact Ne.symm hgl), Below.heap_setCell _ _ _ _ (by exact Ne.symm hgl)]
  · obtain ⟨xs, h1, h2, h3⟩ := h.own r hr
    by_cases e : r = i
    · subst e
      have hl := h1.1
      refine ⟨_, own_set (own_set (own_set (h1) hg (by omega) _) hg (by omega) _) hg (by omega) _, fun hlt => by omega, fun _ => ?_⟩
      rw [rowA_succ, ← h3 rfl]
      apply List.ext_getElem?
      intro j
      by_cases hj : j < k * 3
      · rw [List.getElem?_append_left (by rw [List.length_take]; omega), List.getElem?_take_of_lt (by omega), List.getElem?_set_ne (by omega), List.getElem?_set_ne (by omega), List.getElem?_set_ne (by omega), List.getElem?_take_of_lt hj]
      · rw [List.getElem?_append_right (by rw [List.length_take]; omega), List.length_take, Nat.min_eq_left (by omega)]
        by_cases hj2 : j < (k + 1) * 3
        · rw [List.getElem?_take_of_lt hj2]
          have : j = k * 3 ∨ j = k * 3 + 1 ∨ j = k * 3 + 2 := by omega
          rcases this with rfl | rfl | rfl
          · rw [List.getElem?_set_ne (by omega), List.getElem?_set_ne (by omega), List.getElem?_set_self (by (try simp only [List.length_set]); omega)]; simp [mkE]
          · rw [List.getElem?_set_ne (by omega), List.getElem?_set_self (by (try simp only [List.length_set]); omega)]; simp [mkE]
          · rw [List.getElem?_set_self (by (try simp only [List.length_set]); omega)]; simp [mkE]
        · rw [List.getElem?_eq_none (by rw [List.length_take]; omega), List.getElem?_eq_none (by simp [mkE]; omega)]
    · have hne : (hv r).ownBlock ≠ some g := hI.ap i r hi hr (Ne.symm e) g hg
      refine ⟨xs, ownsRow_setCell_other (ownsRow_setCell_other (ownsRow_setCell_other (h1) hne _) hne _) hne _, h2, fun e' => absurd e' e⟩
end
/-- A list reads as its marks. -/
def RD (w : World) (v : Value) (xs : List Value) : Prop := ∀ g, v.ownBlock = some g → ∀ j u, xs[j]? = some u → w.cell? ⟨g, j, none⟩ = some u
theorem RD.of {w : World} {base e size n : Nat} {v : Value} {xs : List Value} (h : w.ownsRow base e size v n xs) : RD w v xs := fun g hg j u hu => by
  rcases Nat.eq_zero_or_pos n with e | e
  · have := h.1; rw [e, Nat.zero_mul] at this; rw [List.eq_nil_of_length_eq_zero this] at hu; simp at hu
  · obtain ⟨g', cap, rfl, _, _, _, hc⟩ := ownC h e
    injection hg with hg
    subst hg
    exact (hc j u hu).cell
theorem RD.keep {w W : World} {v : Value} {xs : List Value} (h : RD w v xs) (hb : ∀ g, v.ownBlock = some g → W.heap[g]? = w.heap[g]?) : RD W v xs := fun g hg j u hu => by
  have := h g hg j u hu
  simp only [World.cell?] at this ⊢
  rw [hb g hg]; exact this

/-- While they are lengthened. -/
structure O2 (w0 w : World) (gl m : Nat) (hv : Nat → Value) (n : Nat → Nat) (i : Nat) (lv : Value) (lh : Nat → Value) : Prop where
  heads : ∀ r, r < m → w.cell? ⟨gl, r, none⟩ = some (hv r)
  own : ∀ r, i ≤ r → r < m → w.ownsRow 0 94 3 (hv r) (n r) (rowA r (n r))
  rd : ∀ r, r < m → RD w (hv r) (rowA r (n r))
  lo : ∀ r, r < i → w.ownsRow 0 94 3 (lh r) (n r + 16) (rowA r (n r) ++ rowB r 16)
  loc : ∀ r, r < i → ∀ g, (lh r).ownBlock = some g → (hv r).ownBlock = some g ∨ w0.heap.size ≤ g
  dl : ∀ r, r < i → ∀ g, (lh r).ownBlock = some g → lv.ownBlock ≠ some g
  ll : w.ownsRow w0.heap.size 90 1 lv i ((List.range i).map lh)
  only : Only (HB m hv) w0 w
/-- While one of them is. -/
structure O3 (W w : World) (hvi : Value) (ni i k : Nat) (x : Value) : Prop where
  only : Only (fun g => hvi.ownBlock = some g) W w
  rd : RD w hvi (rowA i ni)
  xo : w.ownsRow 0 94 3 x (ni + k) (rowA i ni ++ rowB i k)
  loc : ∀ g, x.ownBlock = some g → hvi.ownBlock = some g ∨ W.heap.size ≤ g

theorem O3.start {W : World} {hvi : Value} {ni i : Nat} (h : W.ownsRow 0 94 3 hvi ni (rowA i ni)) : O3 W W hvi ni i 0 hvi :=
  ⟨Only.refl _ _, RD.of h, by simpa [rowB] using h, fun g hg => .inl hg⟩
theorem O3.step {W w : World} {hvi : Value} {ni i k : Nat} {x : Value} (h : O3 W w hvi ni i k x) (hlt : ∀ g, hvi.ownBlock = some g → g < W.heap.size) (o : Obj) {x' : Value} {w' : World} (hown : w'.ownsRow 0 94 3 x' (ni + k + 1) (rowA i ni ++ rowB i k ++ [Value.int .i64 0, .int .i64 0, .int .i64 ((-1 - (i : Int)) * 1000 - (k : Int))]))
    (hk : (x'.ownBlock = x.ownBlock ∧ (w.alloc o).grownBy w' x.ownBlock) ∨ (x'.ownBlock = some (w.alloc o).heap.size ∧ (w.alloc o).grownBy w' none)) : O3 W w' hvi ni i (k + 1) x' := by
  have hsz := h.only.size
  have keep : ∀ g, hvi.ownBlock = some g → some g ≠ x.ownBlock ∨ x'.ownBlock ≠ x.ownBlock → w'.heap[g]? = w.heap[g]? := fun g hg hne => by
    have hgl := hlt g hg
    have h1 : (w.alloc o).heap[g]? = w.heap[g]? := Below.heap_alloc w o g (by omega)
    rw [← h1]
    rcases hk with ⟨e, hgr⟩ | ⟨e, hgr⟩
    · rcases hne with hne | hne
      · exact hgr.block g (by simp; omega) hne
      · exact absurd e hne
    · exact hgr.block g (by simp; omega) (by simp)
  refine ⟨?_, ?_, ?_, fun g hg => ?_⟩
  · rcases hk with ⟨e, hgr⟩ | ⟨e, hgr⟩
    · refine (h.only.alloc o).trans' (Only_of_grown hgr) fun g hg e2 => ?_
      rcases h.loc g e2.symm with h1 | h1
      · exact h1
      · omega
    · refine (h.only.alloc o).trans' (Only_of_grown hgr) fun g hg e2 => by cases e2
  · by_cases hb : hvi.ownBlock = x.ownBlock ∧ x'.ownBlock = x.ownBlock
    · intro g hg j u hu
      have hx : x'.ownBlock = some g := by rw [hb.2, ← hb.1]; exact hg
      exact RD.of hown g hx j u (by rw [List.append_assoc, List.getElem?_append_left (List.getElem?_eq_some_iff.1 hu).1]; exact hu)
    · refine h.rd.keep fun g hg => keep g hg ?_
      by_cases e : hvi.ownBlock = x.ownBlock
      · exact .inr fun e2 => hb ⟨e, e2⟩
      · exact .inl fun e2 => e (hg.trans e2)
  · rw [rowB_succ, ← List.append_assoc, ← Nat.add_assoc]; exact hown
  · rcases hk with ⟨e, hgr⟩ | ⟨e, hgr⟩
    · exact h.loc g (by rw [← e]; exact hg)
    · rw [e] at hg; injection hg with hg; right; rw [← hg]; simp; omega

section
variable {w0 : World} {gl m : Nat} {hv : Nat → Value} {n : Nat → Nat} (hI : OwnIn w0 gl m hv n)
include hI
theorem O2.start {w : World} (h : O1 w0 w gl m hv n m 0) : O2 w0 w gl m hv n 0 (.slice none 0 0) hv := by
  have _ := hI
  have hown : ∀ r, r < m → w.ownsRow 0 94 3 (hv r) (n r) (rowA r (n r)) := fun r hr => by
    obtain ⟨xs, h1, h2, _⟩ := h.own r hr
    rw [← h2 hr]; exact h1
  exact ⟨h.heads, fun r _ hr => hown r hr, fun r hr => RD.of (hown r hr), fun r hr => by omega, fun r hr => by omega, fun r hr => by omega, World.ownsRow_nil _ _ _ _, h.only⟩
theorem O2.next {W w w' : World} {i : Nat} {lv : Value} {lh : Nat → Value} (h : O2 w0 W gl m hv n i lv lh) (hi : i < m) {x : Value} (h3 : O3 W w (hv i) (n i) i 16 x) (o : Obj) {lv' : Value}
    (hown : w'.ownsRow w0.heap.size 90 1 lv' (i + 1) ((List.range i).map lh ++ [x])) (hgr : (w.alloc o).grownBy w' lv.ownBlock) (hat : lv'.ownBlock = lv.ownBlock ∨ lv'.ownBlock = some (w.alloc o).heap.size) :
    O2 w0 w' gl m hv n (i + 1) lv' (fun r => if r = i then x else lh r) := by
  have hz0 := h.only.size
  have hz3 := h3.only.size
  have hlv : ∀ g, lv.ownBlock = some g → w0.heap.size ≤ g ∧ g < W.heap.size := fun g hg => h.ll.lt g hg
  have hvlt : ∀ r, r < m → ∀ g, (hv r).ownBlock = some g → g < w0.heap.size := fun r hr g hg => (hI.hs r hr g hg).1
  have kb : ∀ g, g < w.heap.size → lv.ownBlock ≠ some g → w'.heap[g]? = w.heap[g]? := fun g hg hne => by
    rw [← Below.heap_alloc w o g hg]
    exact hgr.block g (by simp; omega) (fun e => hne e.symm)
  have kw : ∀ g, g < W.heap.size → (hv i).ownBlock ≠ some g → w.heap[g]? = W.heap[g]? := fun g hg hne => h3.only.block g hg hne
  have k0 : ∀ g, g < w0.heap.size → (hv i).ownBlock ≠ some g → w'.heap[g]? = W.heap[g]? := fun g hg hne =>
    (kb g (by omega) (fun e => by have := hlv g e; omega)).trans (kw g (by omega) hne)
  have hxl : ∀ g, x.ownBlock = some g → g < w.heap.size := fun g hg => (h3.xo.lt g hg).2
  have hxv : ∀ g, x.ownBlock = some g → lv.ownBlock ≠ some g := fun g hg e => by
    have := hlv g e
    rcases h3.loc g hg with h1 | h1
    · have := hvlt i hi g h1; omega
    · omega
  have hll : ∀ r, r < i → ∀ g, (lh r).ownBlock = some g → g < W.heap.size := fun r hr g hg => ((h.lo r hr).lt g hg).2
  refine ⟨fun r hr => ?_, fun r hr hr2 => ?_, fun r hr => ?_, fun r hr => ?_, fun r hr g hg => ?_, fun r hr g hg => ?_, ?_, ?_⟩
  · rw [← h.heads r hr]
    simp only [World.cell?]
    rw [k0 gl hI.hg (fun e => (hI.hs i hi gl e).2 rfl)]
  · exact own_keep (h.own r (by omega) hr2) fun g hg => k0 g (hvlt r hr2 g hg) (fun e => hI.ap i r hi hr2 (by omega) g e hg)
  · by_cases e : r = i
    · subst e
      exact h3.rd.keep fun g hg => kb g (by have := hvlt r hr g hg; omega) (fun e => by have := hlv g e; have := hvlt r hr g hg; omega)
    · exact (h.rd r hr).keep fun g hg => k0 g (hvlt r hr g hg) (fun e' => hI.ap i r hi hr (Ne.symm e) g e' hg)
  · by_cases e : r = i
    · subst e
      simp only [if_true]
      exact own_keep h3.xo fun g hg => kb g (hxl g hg) (hxv g hg)
    · simp only [if_neg e]
      have hr' : r < i := by omega
      refine own_keep (h.lo r hr') fun g hg => (kb g (by have := hll r hr' g hg; omega) (h.dl r hr' g hg)).trans (kw g (hll r hr' g hg) fun e' => ?_)
      rcases h.loc r hr' g hg with h1 | h1
      · exact hI.ap i r hi (by omega) (Ne.symm e) g e' h1
      · have := hvlt i hi g e'; omega
  · by_cases e : r = i
    · subst e
      simp only [if_true] at hg
      rcases h3.loc g hg with h1 | h1
      · exact .inl h1
      · exact .inr (by omega)
    · simp only [if_neg e] at hg
      exact h.loc r (by omega) g hg
  · by_cases e : r = i
    · subst e
      simp only [if_true] at hg
      rcases hat with h1 | h1
      · rw [h1]; exact hxv g hg
      · rw [h1]; intro e; injection e with e; have := hxl g hg; simp at e; omega
    · simp only [if_neg e] at hg
      rcases hat with h1 | h1
      · rw [h1]; exact h.dl r (by omega) g hg
      · rw [h1]; intro e'; injection e' with e'; have := hll r (by omega) g hg; simp at e'; omega
  · rw [List.range_succ, List.map_append, List.map_singleton]
    have e1 : (List.range i).map (fun r => if r = i then x else lh r) = (List.range i).map lh := List.map_congr_left fun r hr => by
      have := List.mem_range.1 hr
      rw [if_neg (by omega)]
    rw [e1, if_pos rfl]
    exact hown
  · refine ((h.only.trans' h3.only fun g hg e => ⟨i, hi, e⟩).alloc o).trans' (Only_of_grown hgr) fun g hg e => ?_
    have := hlv g e.symm
    omega
end
end Go.Proofs.Ytkglplngnjgnhaa.OwL
