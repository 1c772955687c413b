/- Slots, the plain side: the heap of free numbers does what a heap does. No condition. -/
import Derived.Test.YtkglplngnjgnhaaOrdP
namespace Go.Proofs.Ytkglplngnjgnhaa
set_option linter.unusedVariables false
set_option linter.unusedSimpArgs false
namespace Od
open Go.RowKit

def IsHeap (f : Nat → Int) (n : Nat) : Prop := ∀ i, 0 < i → i < n → f ((i - 1) / 2) < f i
/-- The first n places hold just the numbers of S, each once. -/
structure Holds (f : Nat → Int) (n : Nat) (S : Int → Prop) : Prop where
  mem : ∀ i, i < n → S (f i)
  all : ∀ x, S x → ∃ i, i < n ∧ f i = x
  inj : ∀ i j, i < n → j < n → f i = f j → i = j

theorem swp_at {α : Type} (f : Nat → α) (i k j : Nat) : swp f i k j = if j = k then f i else if j = i then f k else f j := rfl

theorem Holds.swp {f : Nat → Int} {n : Nat} {S : Int → Prop} (h : Holds f n S) {i k : Nat} (hi : i < n) (hk : k < n) : Holds (swp f i k) n S := by
  refine ⟨fun j hj => ?_, fun x hx => ?_, fun a b ha hb e => ?_⟩
  · rw [swp_at]; split
    · exact h.mem i hi
    · split
      · exact h.mem k hk
      · exact h.mem j hj
  · obtain ⟨j, hj, rfl⟩ := h.all x hx
    by_cases h1 : j = i
    · exact ⟨k, hk, by rw [swp_at, if_pos rfl, h1]⟩
    · by_cases h2 : j = k
      · exact ⟨i, hi, by
          rw [swp_at]; split
          · rename_i h3; rw [h2, ← h3]
          · rw [if_pos rfl, h2]⟩
      · exact ⟨j, hj, by rw [swp_at, if_neg h2, if_neg h1]⟩
  · simp only [swp_at] at e
    have H := h.inj
    by_cases a1 : a = k <;> by_cases b1 : b = k
    · omega
    · rw [if_pos a1, if_neg b1] at e
      by_cases b2 : b = i
      · rw [if_pos b2] at e; have := H i k hi hk e; omega
      · rw [if_neg b2] at e; have := H i b hi hb e; omega
    · rw [if_neg a1, if_pos b1] at e
      by_cases a2 : a = i
      · rw [if_pos a2] at e; have := H k i hk hi e; omega
      · rw [if_neg a2] at e; have := H a i ha hi e; omega
    · rw [if_neg a1, if_neg b1] at e
      by_cases a2 : a = i <;> by_cases b2 : b = i
      · omega
      · rw [if_pos a2, if_neg b2] at e; have := H k b hk hb e; omega
      · rw [if_neg a2, if_pos b2] at e; have := H a k ha hk e; omega
      · rw [if_neg a2, if_neg b2] at e; exact H a b ha hb e

theorem siftUp_holds : ∀ (m : Nat) (f : Nat → Int) (k n : Nat) (S : Int → Prop), k < n → Holds f n S → Holds (siftUp m f k) n S := by
  intro m
  induction m with
  | zero => intro f k n S _ h; exact h
  | succ m ih =>
    intro f k n S hk h
    simp only [siftUp]
    split
    · exact h
    · split
      · exact h
      · exact ih _ _ _ _ (by omega) (h.swp (by omega) hk)

theorem siftUp_heap : ∀ (m : Nat) (f : Nat → Int) (k n : Nat), k < m → k < n → (∀ i j, i < n → j < n → f i = f j → i = j) →
    (∀ j, 0 < j → j < n → j ≠ k → f ((j - 1) / 2) < f j) → (0 < k → ∀ j, 0 < j → j < n → (j - 1) / 2 = k → f ((k - 1) / 2) < f j) → IsHeap (siftUp m f k) n := by
  intro m
  induction m with
  | zero => intro f k n h; omega
  | succ m ih =>
    intro f k n hkm hk inj h1 h2
    simp only [siftUp]
    by_cases h0 : k = 0
    · rw [if_pos h0]
      intro j hj hjn
      exact h1 j hj hjn (by omega)
    · rw [if_neg h0]
      by_cases hc : f ((k - 1) / 2) < f k
      · rw [if_pos hc]
        intro j hj hjn
        by_cases e : j = k
        · rw [e]; exact hc
        · exact h1 j hj hjn e
      · rw [if_neg hc]
        obtain ⟨u, hu⟩ : ∃ u, u = (k - 1) / 2 := ⟨_, rfl⟩
        rw [← hu] at hc ⊢
        have huk : u < k := by omega
        have hlt : f k < f u := by
          have : f u ≠ f k := fun e => by have := inj u k (by omega) hk e; omega
          omega
        have h2' := fun j a b c => (hu ▸ h2 (by omega) j a b c : f u < f j)
        refine ih (swp f u k) u n (by omega) (by omega) ?_ ?_ ?_
        · exact (Holds.swp (S := fun x => ∃ i, i < n ∧ f i = x) ⟨fun i hi => ⟨i, hi, rfl⟩, fun x hx => hx, inj⟩ (by omega) hk).inj
        · intro j hj hjn hju
          simp only [swp_at]
          by_cases a1 : j = k
          · subst a1
            rw [if_neg (by omega), if_pos hu.symm, if_pos rfl]; exact hlt
          · rw [if_neg a1, if_neg hju]
            by_cases b1 : (j - 1) / 2 = k
            · rw [if_pos b1]; exact h2' j hj hjn b1
            · rw [if_neg b1]
              by_cases b2 : (j - 1) / 2 = u
              · rw [if_pos b2]
                have := h1 j hj hjn a1
                rw [b2] at this; omega
              · rw [if_neg b2]; exact h1 j hj hjn a1
        · intro hu0 j hj hjn hju
          have g : f ((u - 1) / 2) < f u := h1 u hu0 (by omega) (by omega)
          simp only [swp_at]
          rw [if_neg (show ¬ (u - 1) / 2 = k by omega), if_neg (show ¬ (u - 1) / 2 = u by omega)]
          by_cases a1 : j = k
          · rw [if_pos a1]; exact g
          · rw [if_neg a1, if_neg (by omega)]
            have := h1 j hj hjn a1
            rw [hju] at this; omega

theorem siftDown_holds : ∀ (m : Nat) (f : Nat → Int) (k n : Nat) (S : Int → Prop), Holds f n S → Holds (siftDown m f k n) n S := by
  intro m
  induction m with
  | zero => intro f k n S h; exact h
  | succ m ih =>
    intro f k n S h
    simp only [siftDown]
    have := down_lt f k n
    split
    · exact h
    · exact ih _ _ _ _ (h.swp (by omega) (by omega))

theorem siftDown_heap : ∀ (m : Nat) (f : Nat → Int) (k n : Nat), n ≤ k + m → 0 < m → (∀ i j, i < n → j < n → f i = f j → i = j) →
    (∀ j, 0 < j → j < n → (j - 1) / 2 ≠ k → f ((j - 1) / 2) < f j) → (0 < k → ∀ j, 0 < j → j < n → (j - 1) / 2 = k → f ((k - 1) / 2) < f j) → IsHeap (siftDown m f k n) n := by
  intro m
  induction m with
  | zero => intro f k n _ h; omega
  | succ m ih =>
    intro f k n hkm _ inj h1 h2
    simp only [siftDown]
    obtain ⟨d, hd⟩ : ∃ d, d = down f k n := ⟨_, rfl⟩
    rw [← hd]
    have hdl := down_lt f k n
    rw [← hd] at hdl
    have hdd : d = 2 * k + 1 ∨ d = 2 * k + 2 := by rw [hd]; unfold down; split <;> omega
    -- the lesser one below
    have hd2 : d < n → (d - 1) / 2 = k ∧ ∀ j, j < n → (j - 1) / 2 = k → 0 < j → f d ≤ f j := by
      intro hdn
      refine ⟨by omega, fun j hj hjk hj0 => ?_⟩
      have : j = 2 * k + 1 ∨ j = 2 * k + 2 := by omega
      unfold down at hd
      split at hd
      · rcases this with h | h <;> subst h <;> subst hd <;> omega
      · rename_i hc
        rcases this with h | h
        · subst h; subst hd; exact Int.le_refl _
        · subst h; subst hd
          have : ¬ f (2 * k + 2) < f (2 * k + 1) := fun h => hc ⟨hj, h⟩
          omega
    by_cases hc : n ≤ d ∨ f k < f d
    · rw [if_pos hc]
      intro j hj hjn
      by_cases e : (j - 1) / 2 = k
      · have hdn : d < n := by
          unfold down at hd
          split at hd <;> omega
        rw [e]
        have := (hd2 hdn).2 j hjn e hj
        rcases hc with h | h <;> omega
      · exact h1 j hj hjn e
    · rw [if_neg hc]
      have hdn : d < n := by omega
      obtain ⟨hdp, hmin⟩ := hd2 hdn
      have hlt : f d < f k := by
        have : f k ≠ f d := fun e => by have := inj k d (by omega) hdn e; omega
        omega
      refine ih (swp f k d) d n (by omega) (by omega) ?_ ?_ ?_
      · exact (Holds.swp (S := fun x => ∃ i, i < n ∧ f i = x) ⟨fun i hi => ⟨i, hi, rfl⟩, fun x hx => hx, inj⟩ (by omega) hdn).inj
      · intro j hj hjn hjd
        simp only [swp_at]
        rw [if_neg hjd]
        by_cases a1 : j = d
        · rw [if_pos a1, a1, if_pos hdp]; exact hlt
        · rw [if_neg a1]
          by_cases a2 : j = k
          · subst a2
            rw [if_pos rfl, if_neg (by omega)]
            exact h2 hj d (by omega) hdn hdp
          · rw [if_neg a2]
            by_cases b1 : (j - 1) / 2 = k
            · rw [if_pos b1]
              have := hmin j hjn b1 hj
              have : f d ≠ f j := fun e => a1 (inj d j hdn hjn e).symm
              omega
            · rw [if_neg b1]; exact h1 j hj hjn b1
      · intro hd0 j hj hjn hjd
        simp only [swp_at]
        rw [hdp, if_neg (show ¬ k = d by omega), if_pos rfl, if_neg (show ¬ j = d by omega), if_neg (show ¬ j = k by omega)]
        have := h1 j hj hjn (by omega)
        rw [hjd] at this; exact this

theorem heap_min {f : Nat → Int} {n : Nat} (h : IsHeap f n) : ∀ i, i < n → f 0 ≤ f i := by
  intro i
  induction i using Nat.strongRecOn with
  | ind i ih =>
    intro hi
    by_cases h0 : i = 0
    · subst h0; exact Int.le_refl _
    · have := ih ((i - 1) / 2) (by omega) (by omega)
      have := h i (by omega) hi
      omega
end Od
end Go.Proofs.Ytkglplngnjgnhaa
