/- A book's calls for any side, and the document's: what each answers. Conditions: both as their News lay them. -/
import Derived.Test.YtilngakgofjmpaaR6g
namespace Go.Proofs.Ytilngakgofjmpaa
set_option linter.unusedVariables false
set_option linter.unusedSimpArgs false
open Go.RowKit Go.Shelf
open Od (OrdR)

/-! ### The calls for any side -/
def bestS (l : Bool → List OrdR) (s : Int) : Int := if sidedB s then bestP (l (qOf s)) else 0
def priceS (most : Nat) (l : Bool → List OrdR) (s : Int) : Int := if sidedB s then ((most - (pricesL (l (qOf s))).length : Nat) : Int) else 0
def fitS (most room : Nat) (l : Bool → List OrdR) (s p : Int) : Int := if sidedB s then fitsE most room l (qOf s) p else 1
def depS (l : Bool → List OrdR) (s n : Int) : List LvR := if sidedB s then (depthL (l (qOf s))).take n.toNat else []
section
variable {w : World} {b r most room : Nat} {T : Nat → Prop} {l : Bool → List OrdR} {vv : Bool → Value}
theorem side_cases (s : Int) : sidedB s = false ∨ ∃ q, s = sdN q ∧ sidedB (sdN q) = true ∧ qOf (sdN q) = q := by
  cases h : sidedB s with
  | false => exact .inl rfl
  | true => exact .inr ⟨qOf s, (sdN_qOf h).symm, sided_sdN _, by cases qOf s <;> rfl⟩
theorem b_prices (h : Bk w b T most room l) (s : Int) : Calls Try.prog 94 #[.pointer (some ⟨b, 0, none⟩), .int .u8 s] w fun e w' => e = .returned (.int .i64 (priceS most l s)) ∧ Only (fun _ => False) w w' := by
  rcases side_cases s with hs | ⟨q, rfl, h1, h2⟩
  · unfold priceS; rw [hs]
    exact (k_prices_no (w := w) (b := b) s hs).mono fun e w' ⟨he, ho⟩ => ⟨he, ho ▸ Only.refl _ _⟩
  · unfold priceS; rw [if_pos h1, h2]
    obtain ⟨bs, gu, hv, ba, gl, gr, gf, bm, L, R, V, F, h, rfl⟩ := h
    have := k_prices h q
    rw [show (L q).length = (pricesL (l q)).length by rw [h.prices q, List.length_map]] at this
    exact this
theorem b_fits (h : Bk w b T most room l) (s p : Int) : Calls Try.prog 73 #[.pointer (some ⟨b, 0, none⟩), .int .u8 s, .int .i64 p] w fun e w' => e = .returned (.int .i64 (fitS most room l s p)) ∧ Only (fun _ => False) w w' := by
  rcases side_cases s with hs | ⟨q, rfl, h1, h2⟩
  · unfold fitS; rw [hs]
    obtain ⟨bs, gu, hv, ba, gl, gr, gf, bm, L, R, V, F, h, rfl⟩ := h
    exact (k_fits_side h s p hs).mono fun e w' ⟨he, ho⟩ => ⟨he, ho ▸ Only.refl _ _⟩
  · unfold fitS; rw [if_pos h1, h2]; exact bk_fits h q p
theorem d_fits (h : R6M w r vv most room l) (g : Good most room l) (s p : Int) : Calls Try.prog 93 #[.pointer (some ⟨r, 0, none⟩), .int .u8 s, .int .i64 p] w fun e w' => e = .returned (.int .i64 (fitS most room l s p)) ∧ Only (fun _ => False) w w' := by
  rcases side_cases s with hs | ⟨q, rfl, h1, h2⟩
  · unfold fitS; rw [hs]; exact r6_fits_side s p hs
  · unfold fitS; rw [if_pos h1, h2]; exact r6_fits h g q p
theorem b_depth (h : Bk w b T most room l) (s n : Int) (hw : Wf n) : Calls Try.prog 41 #[.pointer (some ⟨b, 0, none⟩), .int .u8 s, .int .i64 n] w (LvPost w (depS l s n)) := by
  rcases side_cases s with hs | ⟨q, rfl, h1, h2⟩
  · unfold depS; rw [hs]; exact k_depth_side w b s n hs
  · unfold depS; rw [if_pos h1, h2]
    have hn := wf_le hw
    by_cases h0 : n < 1
    · rw [show n.toNat = 0 by omega]; exact k_depth_low w b q n h0
    · have := bk_depth h q n.toNat (by omega) (by omega)
      rwa [show ((n.toNat : Nat) : Int) = n by omega] at this
/-- Facing where there is no side. -/
theorem d_fac_no (h : R6M w r vv most room l) (s lim : Int) (hs : sidedB s = false) : Calls Try.prog 91 #[.pointer (some ⟨r, 0, none⟩), .int .u8 s, .int .i64 lim] w (ListPost w []) := by
  have hne : s ≠ 1 ∧ s ≠ 2 := by
    unfold sidedB at hs; simpa using hs
  have t1 : (s == 1) = false := by simpa using hne.1
  have t2 : (s == 2) = false := by simpa using hne.2
  have c2 := h.c2.cell
  clear hs hne h
  go_enter Try.func91, Try.ntmps91
  go_wp2_with fail
  go_returns
  exact ⟨.slice none 0 0, rfl, World.ownsRow_nil _ _ _ _, by repeat' (first | (with_reducible exact Only.refl _ _) | (with_reducible assumption) | (refine Only.of_none ?_; with_reducible assumption) | (with_reducible refine Only.drewN ?_ _) | (with_reducible refine Only.drew ?_) | (with_reducible refine Only.alloc ?_ _) | (with_reducible refine Only.setCell ?_ ?_ _) | (with_reducible refine Only.then0 ?_ (by with_reducible assumption)) | (with_reducible refine Only.thenN ?_ (by with_reducible assumption) ?_) | (with_reducible refine Only.trans ?_ (by with_reducible assumption)) | (refine .inl ?_; first | rfl | (simp; done) | (simp [Ar.blk]; done)) | (refine .inr ?_; first | omega | (simp; done) | (simp; omega) | exact Only.size (by with_reducible assumption) | (refine Nat.le_trans (Only.size (by with_reducible assumption)) ?_; simp; done)))⟩
theorem d_facing (h : R6M w r vv most room l) (g : Good most room l) (s lim : Int) : Calls Try.prog 91 #[.pointer (some ⟨r, 0, none⟩), .int .u8 s, .int .i64 lim] w (ListPost w (facO l s lim)) := by
  have hl : ∀ q, (l q).length ≤ 1000000 := fun q => by have := g.le q; omega
  rcases side_cases s with hs | ⟨q, rfl, h1, h2⟩
  · have hne : s ≠ 1 ∧ s ≠ 2 := by unfold sidedB at hs; simpa using hs
    unfold facO; rw [if_neg hne.1, if_neg hne.2]; exact d_fac_no h s lim hs
  · cases q
    · exact r6_fac1 h hl lim
    · exact r6_fac2 h hl lim
end
end Go.Proofs.Ytilngakgofjmpaa
