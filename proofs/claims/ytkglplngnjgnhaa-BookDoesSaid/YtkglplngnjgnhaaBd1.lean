/- BookDoes: a book and the document's beside it: each call is answered alike by both. Conditions: both as their News lay them, and since called alike. -/
import Derived.Test.YtkglplngnjgnhaaR6i
import Derived.Test.YtkglplngnjgnhaaR6j
import Derived.Test.YtkglplngnjgnhaaR6s
import Derived.Test.YtkglplngnjgnhaaOGLC
namespace Go.Proofs.Ytkglplngnjgnhaa
set_option linter.unusedVariables false
set_option linter.unusedSimpArgs false
open Go.RowKit Go.Shelf
open Od (OrdR)

/-- Both lie there, and hold the same; the owner's book beside them. Their blocks are apart, below N, and of a kind Z. -/
def BD (Z : Nat → Prop) (B0 b r bo most room m : Nat) (l : Bool → List OrdR) (N : Nat) (w : World) : Prop :=
  B0 ≤ w.heap.size ∧ ∃ T T6 TO, Bk w b T most room l ∧ R6 w r T6 most room l ∧ OwL.Ow w bo m TO ∧ (∀ i, T i → (Z i ∧ i < N) ∧ ¬ T6 i ∧ ¬ TO i) ∧ (∀ i, T6 i → (Z i ∧ i < N) ∧ ¬ TO i) ∧ (∀ i, TO i → Z i ∧ i < N)

/-- A call of the one, and then a call of the other, answer alike. -/
def TwoB (Z : Nat → Prop) (N : Nat) (f1 f2 : Nat) (a1 a2 : Array Value) (v : Value) (P : World → Prop) (w : World) : Prop :=
  Calls Try.prog f1 a1 w fun e w1 => e = .returned v ∧ Only (fun i => Z i ∧ i < N) w w1 ∧ ∀ W, Only (fun _ => False) w1 W → Calls Try.prog f2 a2 W fun e w2 => e = .returned v ∧ P w2 ∧ Only (fun i => Z i ∧ i < N) W w2

section
variable {Z : Nat → Prop} {B0 b r bo most room m N : Nat} {l : Bool → List OrdR}
theorem BD.keep {w w' : World} (h : BD Z B0 b r bo most room m l N w) (o : Only (fun _ => False) w w') : BD Z B0 b r bo most room m l N w' := by
  obtain ⟨h0, T, T6, TO, h1, h2, h3, h4, h5, h6⟩ := h
  exact ⟨Nat.le_trans h0 o.size, T, T6, TO, h1.only o (fun _ _ => id), h2.only o (fun _ _ => id), h3.only o (fun _ _ => id), h4, h5, h6⟩
theorem BD.top {w : World} (h : BD Z B0 b r bo most room m l N w) : BD Z B0 b r bo most room m l w.heap.size w := by
  obtain ⟨h0, T, T6, TO, h1, h2, h3, h4, h5, h6⟩ := h
  exact ⟨h0, T, T6, TO, h1, h2, h3, fun i hi => ⟨⟨(h4 i hi).1.1, h1.lt i hi⟩, (h4 i hi).2⟩, fun i hi => ⟨⟨(h5 i hi).1.1, h2.lt i hi⟩, (h5 i hi).2⟩, fun i hi => ⟨(h6 i hi).1, h3.lt i hi⟩⟩
theorem BD.good {w : World} (h : BD Z B0 b r bo most room m l N w) : Good most room l := by
  obtain ⟨_, _, _, _, h1, _⟩ := h
  exact h1.good

/-- Neither turns anything. -/
theorem twoB_calm {f1 f2 : Nat} {a1 a2 : Array Value} {v : Value} {w : World} (h : BD Z B0 b r bo most room m l N w)
    (h1 : ∀ {W T}, Bk W b T most room l → Calls Try.prog f1 a1 W fun e w' => e = .returned v ∧ Only (fun _ => False) W w')
    (h2 : ∀ {W vv}, R6M W r vv most room l → Calls Try.prog f2 a2 W fun e w' => e = .returned v ∧ Only (fun _ => False) W w') :
    TwoB Z N f1 f2 a1 a2 v (fun w' => BD Z B0 b r bo most room m l w'.heap.size w') w := by
  have hh := h
  obtain ⟨h0, T, T6, TO, k1, k2, k3, k4, k5, k6⟩ := h
  refine (h1 k1).mono fun e w1 ⟨he, ho⟩ => ⟨he, Only.of_none ho, fun W oW => ?_⟩
  obtain ⟨vv, q2, rfl⟩ := (k2.only ho (fun _ _ => id)).only oW (fun _ _ => id)
  exact (h2 q2).mono fun e w2 ⟨he2, ho2⟩ => ⟨he2, (((hh.keep ho).keep oW).keep ho2).top, Only.of_none ho2⟩

variable (hZ : ∀ i, B0 ≤ i → Z i)
include hZ
/-- Both turn alike. -/
theorem twoB_turn {f1 f2 : Nat} {a1 a2 : Array Value} {v : Value} {l' : Bool → List OrdR} {w : World} (h : BD Z B0 b r bo most room m l N w) (hN : N ≤ w.heap.size)
    (h1 : ∀ {W T}, Bk W b T most room l → Calls Try.prog f1 a1 W (BkPost W b T most room l' v))
    (h2 : ∀ {W vv}, R6M W r vv most room l → Calls Try.prog f2 a2 W (R6Post W r (R6T r vv) most room l' v)) :
    TwoB Z N f1 f2 a1 a2 v (fun w' => BD Z B0 b r bo most room m l' w'.heap.size w') w := by
  obtain ⟨h0, T, T6, TO, k1, k2, k3, k4, k5, k6⟩ := h
  refine (h1 k1).mono fun e w1 hp => ?_
  obtain ⟨T', he, b1, o1, g1⟩ := hp
  refine ⟨he, o1.mono fun i _ hi => (k4 i hi).1, fun W oW => ?_⟩
  have r1 := (k2.only o1 (fun i hi hb => (k4 i hb).2.1 hi)).only oW (fun _ _ => id)
  have w1' := (k3.only o1 (fun i hi hb => (k4 i hb).2.2 hi)).only oW (fun _ _ => id)
  have b1' := b1.only oW (fun _ _ => id)
  have z1 := o1.size
  have z2 := oW.size
  obtain ⟨vv, q2, rfl⟩ := r1
  refine (h2 q2).mono fun e w2 hp => ?_
  obtain ⟨T6', he2, r2, o2, g2⟩ := hp
  have z3 := o2.size
  have n1 : ∀ i, T' i → T i ∨ (w.heap.size ≤ i ∧ i < W.heap.size) := fun i hi => by
    have hlt := b1.lt i hi
    rcases g1 i hi with h | h
    · exact .inl h
    · exact .inr (by omega)
  have n2 : ∀ i, T6' i → R6T r vv i ∨ W.heap.size ≤ i := g2
  refine ⟨he2, ⟨by omega, T', T6', TO, b1'.only o2 (fun i hi hb => ?_), r2, w1'.only o2 (fun i hi hb => (k5 i hb).2 hi), fun i hi => ?_, fun i hi => ?_, fun i hi => ?_⟩, o2.mono fun i _ hi => (k5 i hi).1⟩
  · rcases n1 i hi with h | h
    · exact (k4 i h).2.1 hb
    · have := (k5 i hb).1.2; omega
  · have hlt := b1.lt i hi
    rcases n1 i hi with h | h
    · refine ⟨⟨(k4 i h).1.1, by omega⟩, fun hb => ?_, (k4 i h).2.2⟩
      rcases n2 i hb with h' | h'
      · exact (k4 i h).2.1 h'
      · have := (k4 i h).1.2; omega
    · refine ⟨⟨hZ i (by omega), by omega⟩, fun hb => ?_, fun hb => ?_⟩
      · rcases n2 i hb with h' | h'
        · have := (k5 i h').1.2; omega
        · omega
      · have := (k6 i hb).2; omega
  · have hlt := r2.lt i hi
    rcases n2 i hi with h | h
    · exact ⟨⟨(k5 i h).1.1, hlt⟩, (k5 i h).2⟩
    · exact ⟨⟨hZ i (by omega), hlt⟩, fun hb => by have := (k6 i hb).2; omega⟩
  · have h := k6 i hi
    exact ⟨h.1, by omega⟩
end

/-! ### The calls for any side -/
def bestS (l : Bool → List OrdR) (s : Int) : Int := if sidedB s then bestP (l (qOf s)) else 0
def priceS (most : Nat) (l : Bool → List OrdR) (s : Int) : Int := if sidedB s then ((most - (pricesL (l (qOf s))).length : Nat) : Int) else 0
def fitS (most room : Nat) (l : Bool → List OrdR) (s p : Int) : Int := if sidedB s then fitsE most room l (qOf s) p else 1
def depS (l : Bool → List OrdR) (s n : Int) : List LvR := if sidedB s then (depthL (l (qOf s))).take n.toNat else []
section
variable {w : World} {b r most room : Nat} {T : Nat → Prop} {l : Bool → List OrdR} {vv : Bool → Value}
theorem side_cases (s : Int) : sidedB s = false ∨ ∃ q, s = sdN q ∧ sidedB (sdN q) = true ∧ qOf (sdN q) = q := by
  cases h : sidedB s with
  | false => exact .inl rfl
  | true => exact .inr ⟨qOf s, (sdN_qOf h).symm, sided_sdN _, by cases qOf s <;> rfl⟩
theorem b_best (h : Bk w b T most room l) (s : Int) : Calls Try.prog 36 #[.pointer (some ⟨b, 0, none⟩), .int .u8 s] w fun e w' => e = .returned (.int .i64 (bestS l s)) ∧ Only (fun _ => False) w w' := by
  rcases side_cases s with hs | ⟨q, rfl, h1, h2⟩
  · unfold bestS; rw [hs]
    exact (k_best_no (w := w) (b := b) s hs).mono fun e w' ⟨he, ho⟩ => ⟨he, ho ▸ Only.refl _ _⟩
  · unfold bestS; rw [if_pos h1, h2]; exact bk_best h q
theorem d_best (h : R6M w r vv most room l) (s : Int) : Calls Try.prog 67 #[.pointer (some ⟨r, 0, none⟩), .int .u8 s] w fun e w' => e = .returned (.int .i64 (bestS l s)) ∧ Only (fun _ => False) w w' := by
  rcases side_cases s with hs | ⟨q, rfl, h1, h2⟩
  · unfold bestS; rw [hs]; exact r6_best_no h s hs
  · unfold bestS; rw [if_pos h1, h2]; exact r6_best h q
theorem b_prices (h : Bk w b T most room l) (s : Int) : Calls Try.prog 74 #[.pointer (some ⟨b, 0, none⟩), .int .u8 s] w fun e w' => e = .returned (.int .i64 (priceS most l s)) ∧ Only (fun _ => False) w w' := by
  rcases side_cases s with hs | ⟨q, rfl, h1, h2⟩
  · unfold priceS; rw [hs]
    exact (k_prices_no (w := w) (b := b) s hs).mono fun e w' ⟨he, ho⟩ => ⟨he, ho ▸ Only.refl _ _⟩
  · unfold priceS; rw [if_pos h1, h2]
    obtain ⟨bs, gu, hv, ba, gl, gr, gf, bm, L, R, V, F, h, rfl⟩ := h
    have := k_prices h q
    rw [show (L q).length = (pricesL (l q)).length by rw [h.prices q, List.length_map]] at this
    exact this
theorem d_prices (h : R6M w r vv most room l) (g : Good most room l) (s : Int) : Calls Try.prog 75 #[.pointer (some ⟨r, 0, none⟩), .int .u8 s] w fun e w' => e = .returned (.int .i64 (priceS most l s)) ∧ Only (fun _ => False) w w' := by
  rcases side_cases s with hs | ⟨q, rfl, h1, h2⟩
  · unfold priceS; rw [hs]; exact r6_prices_no s hs
  · unfold priceS; rw [if_pos h1, h2]; exact r6_prices h g q
theorem b_fits (h : Bk w b T most room l) (s p : Int) : Calls Try.prog 53 #[.pointer (some ⟨b, 0, none⟩), .int .u8 s, .int .i64 p] w fun e w' => e = .returned (.int .i64 (fitS most room l s p)) ∧ Only (fun _ => False) w w' := by
  rcases side_cases s with hs | ⟨q, rfl, h1, h2⟩
  · unfold fitS; rw [hs]
    obtain ⟨bs, gu, hv, ba, gl, gr, gf, bm, L, R, V, F, h, rfl⟩ := h
    exact (k_fits_side h s p hs).mono fun e w' ⟨he, ho⟩ => ⟨he, ho ▸ Only.refl _ _⟩
  · unfold fitS; rw [if_pos h1, h2]; exact bk_fits h q p
theorem d_fits (h : R6M w r vv most room l) (g : Good most room l) (s p : Int) : Calls Try.prog 73 #[.pointer (some ⟨r, 0, none⟩), .int .u8 s, .int .i64 p] w fun e w' => e = .returned (.int .i64 (fitS most room l s p)) ∧ Only (fun _ => False) w w' := by
  rcases side_cases s with hs | ⟨q, rfl, h1, h2⟩
  · unfold fitS; rw [hs]; exact r6_fits_side s p hs
  · unfold fitS; rw [if_pos h1, h2]; exact r6_fits h g q p
theorem b_depth (h : Bk w b T most room l) (s n : Int) (hw : Wf n) : Calls Try.prog 35 #[.pointer (some ⟨b, 0, none⟩), .int .u8 s, .int .i64 n] w (LvPost w (depS l s n)) := by
  rcases side_cases s with hs | ⟨q, rfl, h1, h2⟩
  · unfold depS; rw [hs]; exact k_depth_side w b s n hs
  · unfold depS; rw [if_pos h1, h2]
    have hn := wf_le hw
    by_cases h0 : n < 1
    · rw [show n.toNat = 0 by omega]; exact k_depth_low w b q n h0
    · have := bk_depth h q n.toNat (by omega) (by omega)
      rwa [show ((n.toNat : Nat) : Int) = n by omega] at this
theorem d_depth (h : R6M w r vv most room l) (g : Good most room l) (s n : Int) : Calls Try.prog 68 #[.pointer (some ⟨r, 0, none⟩), .int .u8 s, .int .i64 n] w (LvPost w (depS l s n)) := by
  rcases side_cases s with hs | ⟨q, rfl, h1, h2⟩
  · unfold depS; rw [hs]; exact r6_depth_no h s n hs
  · unfold depS; rw [if_pos h1, h2]; exact r6_depth h (fun q => g.qs q) (fun q => by have := g.le q; omega) q n
theorem b_len (h : Bk w b T most room l) : Calls Try.prog 40 #[.pointer (some ⟨b, 0, none⟩)] w fun e w' => e = .returned (.int .i64 ((l false).length + (l true).length : Nat)) ∧ w = w' := by
  obtain ⟨bs, gu, hv, ba, gl, gr, gf, bm, L, R, V, F, h, rfl⟩ := h
  exact k_len h
theorem depS_len (g : Good most room l) (s n : Int) : (depS l s n).length ≤ 256 := by
  unfold depS
  split
  · have h1 := dep_len (l (qOf s))
    have h2 := g.le (qOf s)
    rw [List.length_take]; omega
  · exact Nat.zero_le _
/-- Facing where there is no side. -/
theorem d_fac_no (h : R6M w r vv most room l) (s lim : Int) (hs : sidedB s = false) : Calls Try.prog 71 #[.pointer (some ⟨r, 0, none⟩), .int .u8 s, .int .i64 lim] w (ListPost w []) := by
  have hne : s ≠ 1 ∧ s ≠ 2 := by
    unfold sidedB at hs; simpa using hs
  have t1 : (s == 1) = false := by simpa using hne.1
  have t2 : (s == 2) = false := by simpa using hne.2
  have c2 := h.c2.cell
  clear hs hne h
  go_enter Try.func71, Try.ntmps71
  go_wp2_with fail
  go_returns
  exact ⟨.slice none 0 0, rfl, World.ownsRow_nil _ _ _ _, by repeat' (first | (with_reducible exact Only.refl _ _) | (with_reducible assumption) | (refine Only.of_none ?_; with_reducible assumption) | (with_reducible refine Only.drewN ?_ _) | (with_reducible refine Only.drew ?_) | (with_reducible refine Only.alloc ?_ _) | (with_reducible refine Only.setCell ?_ ?_ _) | (with_reducible refine Only.then0 ?_ (by with_reducible assumption)) | (with_reducible refine Only.thenN ?_ (by with_reducible assumption) ?_) | (with_reducible refine Only.trans ?_ (by with_reducible assumption)) | (refine .inl ?_; first | rfl | (simp; done) | (simp [Ar.blk]; done)) | (refine .inr ?_; first | omega | (simp; done) | (simp; omega) | exact Only.size (by with_reducible assumption) | (refine Nat.le_trans (Only.size (by with_reducible assumption)) ?_; simp; done)))⟩
theorem d_facing (h : R6M w r vv most room l) (g : Good most room l) (s lim : Int) : Calls Try.prog 71 #[.pointer (some ⟨r, 0, none⟩), .int .u8 s, .int .i64 lim] w (ListPost w (facO l s lim)) := by
  have hl : ∀ q, (l q).length ≤ 1000000 := fun q => by have := g.le q; omega
  rcases side_cases s with hs | ⟨q, rfl, h1, h2⟩
  · have hne : s ≠ 1 ∧ s ≠ 2 := by unfold sidedB at hs; simpa using hs
    unfold facO; rw [if_neg hne.1, if_neg hne.2]; exact d_fac_no h s lim hs
  · cases q
    · exact r6_fac1 h hl lim
    · exact r6_fac2 h hl lim
end
end Go.Proofs.Ytkglplngnjgnhaa
