/- Slots, the plain side: the heap of free numbers does what a heap does. No condition. -/
import Derived.Test.YtilngakgofjmpaaJ3
import Derived.Test.YtilngakgofjmpaaJ7
import Derived.StillTailTactics
import Derived.Deep.RegionLaw
import Derived.Test.YtilngakgofjmpaaJ1
import Derived.RangeFuncNested
import Derived.RangeFuncBound
import Derived.RangeFuncCalls
import Derived.RangeFuncLeaves
import Derived.Shelf.Abstract
import Derived.Shelf.RegionOpen
import Derived.WalkKit
import Derived.OwnWalkIn
import Derived.TacticsInMore
import Derived.LoopNIn
import Derived.LoopIn
namespace Go.Proofs.Ytilngakgofjmpaa
set_option linter.unusedVariables false
set_option linter.unusedSimpArgs false
namespace Od
open Go.RowKit

def IsHeap (f : Nat → Int) (n : Nat) : Prop := ∀ i, 0 < i → i < n → f ((i - 1) / 2) < f i
/-- The first n places hold just the numbers of S, each once. -/
structure Holds (f : Nat → Int) (n : Nat) (S : Int → Prop) : Prop where
  mem : ∀ i, i < n → S (f i)
  all : ∀ x, S x → ∃ i, i < n ∧ f i = x
  inj : ∀ i j, i < n → j < n → f i = f j → i = j

theorem swp_at {α : Type} (f : Nat → α) (i k j : Nat) : swp f i k j = if j = k then f i else if j = i then f k else f j := rfl

theorem Holds.swp {f : Nat → Int} {n : Nat} {S : Int → Prop} (h : Holds f n S) {i k : Nat} (hi : i < n) (hk : k < n) : Holds (swp f i k) n S := by
  refine ⟨fun j hj => ?_, fun x hx => ?_, fun a b ha hb e => ?_⟩
  · rw [swp_at]; split
    · exact h.mem i hi
    · split
      · exact h.mem k hk
      · exact h.mem j hj
  · obtain ⟨j, hj, rfl⟩ := h.all x hx
    by_cases h1 : j = i
    · exact ⟨k, hk, by rw [swp_at, if_pos rfl, h1]⟩
    · by_cases h2 : j = k
      · exact ⟨i, hi, by
          rw [swp_at]; split
          · rename_i h3; rw [h2, ← h3]
          · rw [if_pos rfl, h2]⟩
      · exact ⟨j, hj, by rw [swp_at, if_neg h2, if_neg h1]⟩
  · simp only [swp_at] at e
    have H := h.inj
    by_cases a1 : a = k <;> by_cases b1 : b = k
    · omega
    · rw [if_pos a1, if_neg b1] at e
      by_cases b2 : b = i
      · rw [if_pos b2] at e; have := H i k hi hk e; omega
      · rw [if_neg b2] at e; have := H i b hi hb e; omega
    · rw [if_neg a1, if_pos b1] at e
      by_cases a2 : a = i
      · rw [if_pos a2] at e; have := H k i hk hi e; omega
      · rw [if_neg a2] at e; have := H a i ha hi e; omega
    · rw [if_neg a1, if_neg b1] at e
      by_cases a2 : a = i <;> by_cases b2 : b = i
      · omega
      · rw [if_pos a2, if_neg b2] at e; have := H k b hk hb e; omega
      · rw [if_neg a2, if_pos b2] at e; have := H a k ha hk e; omega
      · rw [if_neg a2, if_neg b2] at e; exact H a b ha hb e

theorem siftUp_holds : ∀ (m : Nat) (f : Nat → Int) (k n : Nat) (S : Int → Prop), k < n → Holds f n S → Holds (siftUp m f k) n S := by
  intro m
  induction m with
  | zero => intro f k n S _ h; exact h
  | succ m ih =>
    intro f k n S hk h
    simp only [siftUp]
    split
    · exact h
    · split
      · exact h
      · exact ih _ _ _ _ (by omega) (h.swp (by omega) hk)

theorem siftUp_heap : ∀ (m : Nat) (f : Nat → Int) (k n : Nat), k < m → k < n → (∀ i j, i < n → j < n → f i = f j → i = j) →
    (∀ j, 0 < j → j < n → j ≠ k → f ((j - 1) / 2) < f j) → (0 < k → ∀ j, 0 < j → j < n → (j - 1) / 2 = k → f ((k - 1) / 2) < f j) → IsHeap (siftUp m f k) n := by
  intro m
  induction m with
  | zero => intro f k n h; omega
  | succ m ih =>
    intro f k n hkm hk inj h1 h2
    simp only [siftUp]
    by_cases h0 : k = 0
    · rw [if_pos h0]
      intro j hj hjn
      exact h1 j hj hjn (by omega)
    · rw [if_neg h0]
      by_cases hc : f ((k - 1) / 2) < f k
      · rw [if_pos hc]
        intro j hj hjn
        by_cases e : j = k
        · rw [e]; exact hc
        · exact h1 j hj hjn e
      · rw [if_neg hc]
        obtain ⟨u, hu⟩ : ∃ u, u = (k - 1) / 2 := ⟨_, rfl⟩
        rw [← hu] at hc ⊢
        have huk : u < k := by omega
        have hlt : f k < f u := by
          have : f u ≠ f k := fun e => by have := inj u k (by omega) hk e; omega
          omega
        have h2' := fun j a b c => (hu ▸ h2 (by omega) j a b c : f u < f j)
        refine ih (swp f u k) u n (by omega) (by omega) ?_ ?_ ?_
        · exact (Holds.swp (S := fun x => ∃ i, i < n ∧ f i = x) ⟨fun i hi => ⟨i, hi, rfl⟩, fun x hx => hx, inj⟩ (by omega) hk).inj
        · intro j hj hjn hju
          simp only [swp_at]
          by_cases a1 : j = k
          · subst a1
            rw [if_neg (by omega), if_pos hu.symm, if_pos rfl]; exact hlt
          · rw [if_neg a1, if_neg hju]
            by_cases b1 : (j - 1) / 2 = k
            · rw [if_pos b1]; exact h2' j hj hjn b1
            · rw [if_neg b1]
              by_cases b2 : (j - 1) / 2 = u
              · rw [if_pos b2]
                have := h1 j hj hjn a1
                rw [b2] at this; omega
              · rw [if_neg b2]; exact h1 j hj hjn a1
        · intro hu0 j hj hjn hju
          have g : f ((u - 1) / 2) < f u := h1 u hu0 (by omega) (by omega)
          simp only [swp_at]
          rw [if_neg (show ¬ (u - 1) / 2 = k by omega), if_neg (show ¬ (u - 1) / 2 = u by omega)]
          by_cases a1 : j = k
          · rw [if_pos a1]; exact g
          · rw [if_neg a1, if_neg (by omega)]
            have := h1 j hj hjn a1
            rw [hju] at this; omega

theorem siftDown_holds : ∀ (m : Nat) (f : Nat → Int) (k n : Nat) (S : Int → Prop), Holds f n S → Holds (siftDown m f k n) n S := by
  intro m
  induction m with
  | zero => intro f k n S h; exact h
  | succ m ih =>
    intro f k n S h
    simp only [siftDown]
    have := down_lt f k n
    split
    · exact h
    · exact ih _ _ _ _ (h.swp (by omega) (by omega))

theorem siftDown_heap : ∀ (m : Nat) (f : Nat → Int) (k n : Nat), n ≤ k + m → 0 < m → (∀ i j, i < n → j < n → f i = f j → i = j) →
    (∀ j, 0 < j → j < n → (j - 1) / 2 ≠ k → f ((j - 1) / 2) < f j) → (0 < k → ∀ j, 0 < j → j < n → (j - 1) / 2 = k → f ((k - 1) / 2) < f j) → IsHeap (siftDown m f k n) n := by
  intro m
  induction m with
  | zero => intro f k n _ h; omega
  | succ m ih =>
    intro f k n hkm _ inj h1 h2
    simp only [siftDown]
    obtain ⟨d, hd⟩ : ∃ d, d = down f k n := ⟨_, rfl⟩
    rw [← hd]
    have hdl := down_lt f k n
    rw [← hd] at hdl
    have hdd : d = 2 * k + 1 ∨ d = 2 * k + 2 := by rw [hd]; unfold down; split <;> omega
    -- the lesser one below
    have hd2 : d < n → (d - 1) / 2 = k ∧ ∀ j, j < n → (j - 1) / 2 = k → 0 < j → f d ≤ f j := by
      intro hdn
      refine ⟨by omega, fun j hj hjk hj0 => ?_⟩
      have : j = 2 * k + 1 ∨ j = 2 * k + 2 := by omega
      unfold down at hd
      split at hd
      · rcases this with h | h <;> subst h <;> subst hd <;> omega
      · rename_i hc
        rcases this with h | h
        · subst h; subst hd; exact Int.le_refl _
        · subst h; subst hd
          have : ¬ f (2 * k + 2) < f (2 * k + 1) := fun h => hc ⟨hj, h⟩
          omega
    by_cases hc : n ≤ d ∨ f k < f d
    · rw [if_pos hc]
      intro j hj hjn
      by_cases e : (j - 1) / 2 = k
      · have hdn : d < n := by
          unfold down at hd
          split at hd <;> omega
        rw [e]
        have := (hd2 hdn).2 j hjn e hj
        rcases hc with h | h <;> omega
      · exact h1 j hj hjn e
    · rw [if_neg hc]
      have hdn : d < n := by omega
      obtain ⟨hdp, hmin⟩ := hd2 hdn
      have hlt : f d < f k := by
        have : f k ≠ f d := fun e => by have := inj k d (by omega) hdn e; omega
        omega
      refine ih (swp f k d) d n (by omega) (by omega) ?_ ?_ ?_
      · exact (Holds.swp (S := fun x => ∃ i, i < n ∧ f i = x) ⟨fun i hi => ⟨i, hi, rfl⟩, fun x hx => hx, inj⟩ (by omega) hdn).inj
      · intro j hj hjn hjd
        simp only [swp_at]
        rw [if_neg hjd]
        by_cases a1 : j = d
        · rw [if_pos a1, a1, if_pos hdp]; exact hlt
        · rw [if_neg a1]
          by_cases a2 : j = k
          · subst a2
            rw [if_pos rfl, if_neg (by omega)]
            exact h2 hj d (by omega) hdn hdp
          · rw [if_neg a2]
            by_cases b1 : (j - 1) / 2 = k
            · rw [if_pos b1]
              have := hmin j hjn b1 hj
              have : f d ≠ f j := fun e => a1 (inj d j hdn hjn e).symm
              omega
            · rw [if_neg b1]; exact h1 j hj hjn b1
      · intro hd0 j hj hjn hjd
        simp only [swp_at]
        rw [hdp, if_neg (show ¬ k = d by omega), if_pos rfl, if_neg (show ¬ j = d by omega), if_neg (show ¬ j = k by omega)]
        have := h1 j hj hjn (by omega)
        rw [hjd] at this; exact this

theorem heap_min {f : Nat → Int} {n : Nat} (h : IsHeap f n) : ∀ i, i < n → f 0 ≤ f i := by
  intro i
  induction i using Nat.strongRecOn with
  | ind i ih =>
    intro hi
    by_cases h0 : i = 0
    · subst h0; exact Int.le_refl _
    · have := ih ((i - 1) / 2) (by omega) (by omega)
      have := h i (by omega) hi
      omega
end Od
end Go.Proofs.Ytilngakgofjmpaa

/- Slots, the plain side: rows of numbers, laid out by links; Push and Take keep them so. No condition. -/
namespace Go.Proofs.Ytilngakgofjmpaa
set_option linter.unusedVariables false
set_option linter.unusedSimpArgs false
namespace Od
open Go.RowKit

def hdI : List Nat → Int
  | [] => -1
  | n :: _ => n
def laI (l : List Nat) : Int := hdI l.reverse
theorem laI_nil : laI [] = -1 := rfl
theorem laI_snoc (l : List Nat) (n : Nat) : laI (l ++ [n]) = n := by simp [laI, hdI]
theorem laI_app (l : List Nat) {m : List Nat} (h : m ≠ []) : laI (l ++ m) = laI m := by
  unfold laI
  rw [List.reverse_append]
  cases e : m.reverse with
  | nil => exact absurd (by simpa using e) h
  | cons a t => simp [hdI]
theorem laI_cons (n : Nat) (l : List Nat) : laI (n :: l) = if l = [] then (n : Int) else laI l := by
  by_cases h : l = []
  · subst h; simp [laI, hdI]
  · rw [if_neg h, show n :: l = [n] ++ l from rfl, laI_app _ h]
theorem hdI_app {l : List Nat} (h : l ≠ []) (m : List Nat) : hdI (l ++ m) = hdI l := by cases l <;> simp_all [hdI]
theorem hdI_neg {l : List Nat} : hdI l = -1 ↔ l = [] := by
  cases l with
  | nil => simp [hdI]
  | cons a t => simp only [hdI]; exact ⟨fun h => by omega, fun h => by cases h⟩
theorem laI_neg {l : List Nat} : laI l = -1 ↔ l = [] := by unfold laI; rw [hdI_neg]; simp
theorem hdI_mem {l : List Nat} {n : Nat} (h : hdI l = (n : Int)) : n ∈ l := by
  cases l with
  | nil => exact absurd h (by simp only [hdI]; omega)
  | cons a t => simp only [hdI] at h; rw [show a = n by omega]; simp
theorem laI_mem {l : List Nat} {n : Nat} (h : laI l = (n : Int)) : n ∈ l := by simpa using hdI_mem h
theorem laI_split {l : List Nat} (h : l ≠ []) : ∃ (k : List Nat) (n : Nat), l = k ++ [n] ∧ laI l = n := by
  rcases List.eq_nil_or_concat l with h0 | ⟨k, n, e⟩
  · exact absurd h0 h
  · exact ⟨k, n, by simpa using e, by rw [show l = k ++ [n] by simpa using e]; exact laI_snoc k n⟩

structure Rep (A : Ar) (R : Nat → List Nat) : Prop where
  lt : ∀ r, r < A.nr → ∀ n ∈ R r, n < A.room
  ro : ∀ r, r < A.nr → ∀ n ∈ R r, A.ro n = r
  nd : ∀ r, r < A.nr → (R r).Nodup
  fr : ∀ n, n < A.room → A.ro n = -1 ∨ ∃ r, r < A.nr ∧ A.ro n = r ∧ n ∈ R r
  hd : ∀ r, r < A.nr → A.rf r = hdI (R r)
  la : ∀ r, r < A.nr → A.rl r = laI (R r)
  ln : ∀ r, r < A.nr → A.rn r = (R r).length
  lk : ∀ r, r < A.nr → ∀ l1 n l2, R r = l1 ++ n :: l2 → A.ah n = laI l1 ∧ A.fa n = hdI l2
  hp : IsHeap A.fr A.nf
  ho : Holds A.fr A.nf (fun x => ∃ n : Nat, n < A.room ∧ A.ro n = -1 ∧ x = n)
  nf : A.nf ≤ A.room

theorem Rep.other {A : Ar} {R : Nat → List Nat} (h : Rep A R) {r s n : Nat} (hr : r < A.nr) (hs : s < A.nr) (hn : n ∈ R r) (hm : n ∈ R s) : r = s := by
  have := h.ro r hr n hn
  have := h.ro s hs n hm
  omega

/-- The least free number. -/
theorem Rep.least {A : Ar} {R : Nat → List Nat} (h : Rep A R) (hn : 0 < A.nf) :
    ∃ n : Nat, A.fr 0 = n ∧ n < A.room ∧ A.ro n = -1 ∧ (∀ m, m < A.room → A.ro m = -1 → n ≤ m) ∧
      IsHeap A.least.fr (A.nf - 1) ∧ Holds A.least.fr (A.nf - 1) (fun x => ∃ m : Nat, m < A.room ∧ A.ro m = -1 ∧ x = m ∧ m ≠ n) := by
  obtain ⟨n, hnr, hro, hx⟩ := h.ho.mem 0 hn
  obtain ⟨e, he⟩ : ∃ e, A.nf = e + 1 := ⟨A.nf - 1, by omega⟩
  refine ⟨n, hx, hnr, hro, fun m hm hmo => ?_, ?_⟩
  · obtain ⟨i, hi, hi'⟩ := h.ho.all m ⟨m, hm, hmo, rfl⟩
    have := heap_min h.hp i hi
    omega
  · have inj0 := h.ho.inj
    have hh : Holds (upd A.fr 0 (A.fr e)) e (fun x => ∃ m : Nat, m < A.room ∧ A.ro m = -1 ∧ x = m ∧ m ≠ n) := by
      refine ⟨fun i hi => ?_, fun x hx' => ?_, fun i j hi hj eq => ?_⟩
      · by_cases h0 : i = 0
        · subst h0
          rw [upd_same]
          obtain ⟨m, h1, h2, h3⟩ := h.ho.mem e (by omega)
          exact ⟨m, h1, h2, h3, fun e1 => by have := inj0 e 0 (by omega) (by omega) (by rw [h3, hx, e1]); omega⟩
        · rw [upd_other h0]
          obtain ⟨m, h1, h2, h3⟩ := h.ho.mem i (by omega)
          exact ⟨m, h1, h2, h3, fun e1 => by have := inj0 i 0 (by omega) (by omega) (by rw [h3, hx, e1]); omega⟩
      · obtain ⟨m, h1, h2, h3, h4⟩ := hx'
        obtain ⟨i, hi, hi'⟩ := h.ho.all x ⟨m, h1, h2, h3⟩
        have hi0 : i ≠ 0 := fun e1 => by subst e1; omega
        by_cases h5 : i = e
        · exact ⟨0, by omega, by rw [upd_same, ← h5]; exact hi'⟩
        · exact ⟨i, by omega, by rw [upd_other hi0]; exact hi'⟩
      · by_cases h0 : i = 0 <;> by_cases h1 : j = 0
        · omega
        · subst h0; rw [upd_same, upd_other h1] at eq; have := inj0 e j (by omega) (by omega) eq; omega
        · subst h1; rw [upd_same, upd_other h0] at eq; have := inj0 i e (by omega) (by omega) eq; omega
        · rw [upd_other h0, upd_other h1] at eq; exact inj0 i j (by omega) (by omega) eq
    have hl : A.least.fr = siftDown (e + 1) (upd A.fr 0 (A.fr e)) 0 e := by unfold Ar.least; rw [he]; rfl
    rw [he, Nat.add_sub_cancel, hl]
    refine ⟨siftDown_heap _ _ _ _ (by omega) (by omega) hh.inj (fun j hj hje hjp => ?_) (fun h => by omega), siftDown_holds _ _ _ _ _ hh⟩
    rw [upd_other hjp, upd_other (by omega)]
    exact h.hp j hj (by omega)

theorem snoc_split {L l1 l2 : List Nat} {n m : Nat} (h : L ++ [n] = l1 ++ m :: l2) : (l2 = [] ∧ m = n ∧ l1 = L) ∨ ∃ k, l2 = k ++ [n] ∧ L = l1 ++ m :: k := by
  rcases List.eq_nil_or_concat l2 with h0 | ⟨k, x, e⟩
  · subst h0
    have := List.append_inj' h rfl
    simp at this
    exact .inl ⟨rfl, this.2.symm, this.1.symm⟩
  · rw [e, List.concat_eq_append, ← List.cons_append, ← List.append_assoc] at h
    have := List.append_inj' h rfl
    simp at this
    exact .inr ⟨k, by rw [e]; simp [this.2], by simpa using this.1⟩

theorem Rep.push {A : Ar} {R : Nat → List Nat} (h : Rep A R) {r n : Nat} (hr : r < A.nr) (hnf : 0 < A.nf) (hn : A.fr 0 = (n : Int)) (v : Value) : Rep (A.push r v) (upd R r (R r ++ [n])) := by
  obtain ⟨n', hn', hnr, hno, _, hheap, hholds⟩ := h.least hnf
  have : n' = n := by omega
  subst this
  have hnotin : ∀ s, s < A.nr → n' ∉ R s := fun s hs hm => by have := h.ro s hs n' hm; omega
  have hp : A.push r v = { A.least with
      th := upd A.th n' v, ro := upd A.ro n' r, ah := upd A.ah n' (A.rl r)
      fa := if A.rl r = -1 then upd A.fa n' (-1) else upd (upd A.fa n' (-1)) (A.rl r).toNat n'
      rf := if A.rl r = -1 then upd A.rf r n' else A.rf, rl := upd A.rl r n', rn := upd A.rn r (A.rn r + 1) } := by
    unfold Ar.push; rw [hn']; rfl
  have hla := h.la r hr
  refine ⟨?_, ?_, ?_, ?_, ?_, ?_, ?_, ?_, ?_, ?_, ?_⟩
  · intro s hs m hm
    by_cases e : s = r
    · subst e; rw [upd_same] at hm
      rcases List.mem_append.1 hm with h1 | h1
      · exact h.lt s hs m h1
      · rw [List.mem_singleton.1 h1]; exact hnr
    · rw [upd_other e] at hm; exact h.lt s hs m hm
  · intro s hs m hm
    rw [hp]
    by_cases e : s = r
    · subst e; rw [upd_same] at hm
      rcases List.mem_append.1 hm with h1 | h1
      · simp only; rw [upd_other (fun e : m = n' => hnotin s hs (e ▸ h1))]; exact h.ro s hs m h1
      · rw [List.mem_singleton.1 h1]; exact upd_same _ _ _
    · rw [upd_other e] at hm
      simp only; rw [upd_other (fun e : m = n' => hnotin s hs (e ▸ hm))]; exact h.ro s hs m hm
  · intro s hs
    by_cases e : s = r
    · subst e; rw [upd_same, List.nodup_append]
      exact ⟨h.nd s hs, by simp, fun a ha b hb => by rw [List.mem_singleton.1 hb]; exact fun e => hnotin s hs (e ▸ ha)⟩
    · rw [upd_other e]; exact h.nd s hs
  · intro m hm
    rw [hp]
    simp only
    by_cases e : m = n'
    · subst e; rw [upd_same]; exact .inr ⟨r, hr, rfl, by rw [upd_same]; simp⟩
    · rw [upd_other e]
      rcases h.fr m hm with h1 | ⟨s, hs, h1, h2⟩
      · exact .inl h1
      · refine .inr ⟨s, hs, h1, ?_⟩
        by_cases e2 : s = r
        · subst e2; rw [upd_same]; simp [h2]
        · rw [upd_other e2]; exact h2
  · intro s hs
    rw [hp]
    simp only
    by_cases e : s = r
    · subst e
      rw [upd_same, hla]
      by_cases e2 : R s = []
      · rw [e2, if_pos (by rfl), upd_same]; rfl
      · rw [if_neg (fun h => e2 (laI_neg.1 h)), hdI_app e2]; exact h.hd s hs
    · rw [upd_other e]
      split
      · rw [upd_other e]; exact h.hd s hs
      · exact h.hd s hs
  · intro s hs
    rw [hp]
    simp only
    by_cases e : s = r
    · subst e; rw [upd_same, upd_same, laI_snoc]
    · rw [upd_other e, upd_other e]; exact h.la s hs
  · intro s hs
    rw [hp]
    simp only
    by_cases e : s = r
    · subst e; rw [upd_same, upd_same, h.ln s hs]; simp
    · rw [upd_other e, upd_other e]; exact h.ln s hs
  · intro s hs l1 m l2 hsp
    rw [hp]
    simp only
    by_cases e : s = r
    · subst e
      rw [upd_same] at hsp
      rcases snoc_split hsp with ⟨rfl, rfl, rfl⟩ | ⟨k, rfl, hL⟩
      · rw [upd_same]
        refine ⟨hla, ?_⟩
        split
        · rw [upd_same]; rfl
        · rename_i hne
          obtain ⟨k, x, hk, hx⟩ := laI_split (l := R s) (fun e => hne (by rw [hla, e]; rfl))
          rw [hla, hx, Int.toNat_natCast, upd_other, upd_same]
          · rfl
          · intro e; exact hnotin s hs (by rw [hk, ← e]; simp)
      · have hmn : m ≠ n' := fun e => hnotin s hs (by rw [hL, e]; simp)
        obtain ⟨g1, g2⟩ := h.lk s hs l1 m k hL
        rw [upd_other hmn]
        refine ⟨g1, ?_⟩
        have hne : R s ≠ [] := by rw [hL]; simp
        rw [if_neg (fun e => hne (laI_neg.1 (hla ▸ e)))]
        by_cases hk : k = []
        · subst hk
          have : laI (R s) = m := by rw [hL]; exact laI_snoc l1 m
          rw [hla, this, Int.toNat_natCast, upd_same]
          rfl
        · have hmx : m ≠ (A.rl s).toNat := by
            obtain ⟨k', x, hk', hx⟩ := laI_split hk
            have e1 : laI (R s) = x := by rw [hL, show l1 ++ m :: k = (l1 ++ [m]) ++ k by simp, laI_app _ hk, hx]
            rw [hla, e1, Int.toNat_natCast]
            intro e2
            have := h.nd s hs
            rw [hL, hk', ← e2] at this
            simp [List.nodup_append] at this
          rw [upd_other hmx, upd_other hmn, hdI_app hk]
          exact g2
    · rw [upd_other e] at hsp
      have hm : m ∈ R s := by rw [hsp]; simp
      have hmn : m ≠ n' := fun e => hnotin s hs (e ▸ hm)
      obtain ⟨g1, g2⟩ := h.lk s hs l1 m l2 hsp
      rw [upd_other hmn]
      refine ⟨g1, ?_⟩
      split
      · rw [upd_other hmn]; exact g2
      · rename_i hne
        obtain ⟨k, x, hk, hx⟩ := laI_split (l := R r) (fun e => hne (by rw [hla, e]; rfl))
        rw [hla, hx, Int.toNat_natCast, upd_other, upd_other hmn]
        · exact g2
        · intro e2
          exact e (h.other hs hr hm (by rw [hk, e2]; simp))
  · rw [hp]; exact hheap
  · rw [hp]
    refine ⟨fun i hi => ?_, fun x hx => ?_, hholds.inj⟩
    · obtain ⟨m, h1, h2, h3, h4⟩ := hholds.mem i hi
      exact ⟨m, h1, by simp only; rw [upd_other h4]; exact h2, h3⟩
    · obtain ⟨m, h1, h2, h3⟩ := hx
      simp only at h2
      by_cases e : m = n'
      · subst e; rw [upd_same] at h2; omega
      · rw [upd_other e] at h2
        exact hholds.all x ⟨m, h1, h2, h3, e⟩
  · rw [hp]
    have := h.nf
    show A.nf - 1 ≤ A.room
    omega
end Od
end Go.Proofs.Ytilngakgofjmpaa

/- Slots, the plain side: Take keeps the rows laid out. No condition. -/
namespace Go.Proofs.Ytilngakgofjmpaa
set_option linter.unusedVariables false
set_option linter.unusedSimpArgs false
namespace Od
open Go.RowKit

theorem nodup_len : ∀ (n : Nat) (l : List Nat), l.Nodup → (∀ x ∈ l, x < n) → l.length ≤ n := by
  intro n
  induction n with
  | zero =>
    intro l _ h
    cases l with
    | nil => simp
    | cons a t => have := h a (by simp); omega
  | succ n ih =>
    intro l hn h
    by_cases hm : n ∈ l
    · have := ih (l.erase n) (hn.erase n) (fun x hx => by
        have h1 := (hn.mem_erase_iff).1 hx
        have := h x h1.2
        have := h1.1
        omega)
      rw [List.length_erase_of_mem hm] at this
      omega
    · have := ih l hn (fun x hx => by
        have := h x hx
        have : x ≠ n := fun e => hm (e ▸ hx)
        omega)
      omega

theorem Rep.len {A : Ar} {R : Nat → List Nat} (h : Rep A R) {r : Nat} (hr : r < A.nr) : (R r).length ≤ A.room := nodup_len _ _ (h.nd r hr) (h.lt r hr)

theorem app_split {l1 l2 k1 k2 : List Nat} {m : Nat} (h : l1 ++ l2 = k1 ++ m :: k2) : (∃ us, k1 = l1 ++ us ∧ l2 = us ++ m :: k2) ∨ ∃ bs, l1 = k1 ++ m :: bs ∧ k2 = bs ++ l2 := by
  rcases List.append_eq_append_iff.1 h with ⟨us, h1, h2⟩ | ⟨bs, h1, h2⟩
  · exact .inl ⟨us, h1, h2⟩
  · cases bs with
    | nil => exact .inl ⟨[], by simpa using h1.symm, by simpa using h2.symm⟩
    | cons b t =>
      simp at h2
      exact .inr ⟨t, by rw [h1, h2.1], h2.2⟩

theorem Rep.take {A : Ar} {R : Nat → List Nat} (h : Rep A R) {r n : Nat} (hr : r < A.nr) {l1 l2 : List Nat} (hs : R r = l1 ++ n :: l2) (hnf : A.nf < A.room) (z : Value) :
    Rep (A.take n z) (upd R r (l1 ++ l2)) := by
  have hnm : n ∈ R r := by rw [hs]; simp
  have hro := h.ro r hr n hnm
  have hnr := h.lt r hr n hnm
  obtain ⟨ha, hf⟩ := h.lk r hr l1 n l2 hs
  have hnd := h.nd r hr
  rw [hs] at hnd
  have hnd2 := List.nodup_append.1 hnd
  have n1 : n ∉ l1 := fun hm => hnd2.2.2 n hm n (by simp) rfl
  have n2 : n ∉ l2 := (List.nodup_cons.1 hnd2.2.1).1
  have d12 : ∀ x, x ∈ l1 → x ∈ l2 → False := fun x a b => hnd2.2.2 x a x (by simp [b]) rfl
  have hsub : ∀ m, m ∈ l1 ++ l2 → m ∈ R r ∧ m ≠ n := fun m hm => by
    rw [hs]
    rcases List.mem_append.1 hm with h1 | h1
    · exact ⟨by simp [h1], fun e => n1 (e ▸ h1)⟩
    · exact ⟨by simp [h1], fun e => n2 (e ▸ h1)⟩
  have hoth : ∀ s, s < A.nr → s ≠ r → ∀ m ∈ R s, m ≠ n := fun s hsr e m hm e2 => e (h.other hsr hr hm (e2 ▸ hnm))
  obtain ⟨F, hF⟩ : ∃ F, F = siftUp (A.nf + 1) (upd A.fr A.nf n) A.nf := ⟨_, rfl⟩
  have hp : A.take n z = { A with
      nf := A.nf + 1, fr := F, th := upd A.th n z, ro := upd A.ro n (-1)
      rf := if A.ah n = -1 then upd A.rf r (A.fa n) else A.rf
      fa := upd (if A.ah n = -1 then A.fa else upd A.fa (A.ah n).toNat (A.fa n)) n 0
      rl := if A.fa n = -1 then upd A.rl r (A.ah n) else A.rl
      ah := upd (if A.fa n = -1 then A.ah else upd A.ah (A.fa n).toNat (A.ah n)) n 0
      rn := upd A.rn r (A.rn r - 1) } := by
    unfold Ar.take Ar.cut Ar.wipe Ar.give; rw [hro, hF]; simp only [Int.toNat_natCast]
  refine ⟨?_, ?_, ?_, ?_, ?_, ?_, ?_, ?_, ?_, ?_, ?_⟩
  · intro s hsr m hm
    rw [hp]
    by_cases e : s = r
    · subst e; rw [upd_same] at hm; exact h.lt s hr m (hsub m hm).1
    · rw [upd_other e] at hm; exact h.lt s hsr m hm
  · intro s hsr m hm
    rw [hp]
    simp only
    by_cases e : s = r
    · subst e; rw [upd_same] at hm; rw [upd_other (hsub m hm).2]; exact h.ro s hr m (hsub m hm).1
    · rw [upd_other e] at hm; rw [upd_other (hoth s hsr e m hm)]; exact h.ro s hsr m hm
  · intro s hsr
    by_cases e : s = r
    · subst e; rw [upd_same, List.nodup_append]
      exact ⟨hnd2.1, (List.nodup_cons.1 hnd2.2.1).2, fun a ha' b hb e => d12 a ha' (e ▸ hb)⟩
    · rw [upd_other e]; exact h.nd s hsr
  · intro m hm
    rw [hp]
    simp only
    by_cases e : m = n
    · subst e; exact .inl (upd_same _ _ _)
    · rw [upd_other e]
      rcases h.fr m hm with h1 | ⟨s, hsr, h1, h2⟩
      · exact .inl h1
      · refine .inr ⟨s, hsr, h1, ?_⟩
        by_cases e2 : s = r
        · subst e2; rw [upd_same]; rw [hs] at h2; simp at h2 ⊢; rcases h2 with h2 | h2 | h2
          · exact .inl h2
          · exact absurd h2 e
          · exact .inr h2
        · rw [upd_other e2]; exact h2
  · intro s hsr
    rw [hp]
    simp only
    by_cases e : s = r
    · subst e
      rw [upd_same, ha]
      by_cases e2 : l1 = []
      · subst e2; rw [if_pos (by rfl), upd_same]; exact hf
      · rw [if_neg (fun h => e2 (laI_neg.1 h)), h.hd s hr, hs, hdI_app e2, hdI_app e2]
    · rw [upd_other e]
      split
      · rw [upd_other e]; exact h.hd s hsr
      · exact h.hd s hsr
  · intro s hsr
    rw [hp]
    simp only
    by_cases e : s = r
    · subst e
      rw [upd_same, hf]
      by_cases e2 : l2 = []
      · subst e2; rw [if_pos (by rfl), upd_same, List.append_nil]; exact ha
      · rw [if_neg (fun h => e2 (hdI_neg.1 h)), h.la s hr, hs, laI_app _ (by simp), laI_cons, if_neg e2, laI_app _ e2]
    · rw [upd_other e]
      split
      · rw [upd_other e]; exact h.la s hsr
      · exact h.la s hsr
  · intro s hsr
    rw [hp]
    simp only
    by_cases e : s = r
    · subst e; rw [upd_same, upd_same, h.ln s hr, hs]; simp; omega
    · rw [upd_other e, upd_other e]; exact h.ln s hsr
  · intro s hsr k1 m k2 hsp
    rw [hp]
    simp only
    by_cases e : s = r
    · subst e
      rw [upd_same] at hsp
      have hmm := hsub m (by rw [hsp]; simp)
      rw [upd_other hmm.2, upd_other hmm.2]
      rcases app_split hsp with ⟨us, rfl, rfl⟩ | ⟨bs, rfl, rfl⟩
      · obtain ⟨g1, g2⟩ := h.lk s hr (l1 ++ n :: us) m k2 (by rw [hs]; simp)
        have hml1 : m ∉ l1 := fun hm => d12 m hm (by simp)
        refine ⟨?_, ?_⟩
        · rw [hf]
          by_cases e2 : us = []
          · subst e2
            rw [if_neg (by simp only [List.nil_append, hdI]; omega)]
            simp only [List.nil_append, hdI, Int.toNat_natCast, List.append_nil]
            rw [upd_same]; exact ha
          · rw [if_neg (by cases us <;> simp_all [hdI] <;> omega), laI_app _ e2]
            rw [laI_app _ (by simp), laI_cons, if_neg e2] at g1
            rw [upd_other, g1]
            obtain ⟨a, t, rfl⟩ : ∃ a t, us = a :: t := by cases us with | nil => exact absurd rfl e2 | cons a t => exact ⟨a, t, rfl⟩
            simp only [List.cons_append, hdI, Int.toNat_natCast]
            intro e3
            have := (List.nodup_cons.1 hnd2.2.1).2
            rw [e3] at this; simp at this
        · split
          · exact g2
          · rename_i hne
            obtain ⟨k, x, hk, hx⟩ := laI_split (l := l1) (fun e => hne (by rw [ha, e]; rfl))
            rw [ha, hx, Int.toNat_natCast, upd_other]
            · exact g2
            · intro e3; exact hml1 (by rw [hk, e3]; simp)
      · obtain ⟨g1, g2⟩ := h.lk s hr k1 m (bs ++ n :: l2) (by rw [hs]; simp)
        have hml2 : m ∉ l2 := fun hm => d12 m (by simp) hm
        refine ⟨?_, ?_⟩
        · split
          · exact g1
          · rename_i hne
            have hl2 : l2 ≠ [] := fun e => hne (by rw [hf, e]; rfl)
            obtain ⟨a, t, rfl⟩ : ∃ a t, l2 = a :: t := by cases l2 with | nil => exact absurd rfl hl2 | cons a t => exact ⟨a, t, rfl⟩
            rw [hf]
            simp only [hdI, Int.toNat_natCast]
            rw [upd_other]
            · exact g1
            · intro e3; exact hml2 (by simp [e3])
        · rw [ha, laI_app _ (by simp), laI_cons]
          by_cases e2 : bs = []
          · subst e2
            rw [if_pos rfl, if_neg (by omega), Int.toNat_natCast, upd_same, hf]
            rfl
          · rw [if_neg e2, hdI_app e2]
            rw [hdI_app e2] at g2
            obtain ⟨k, x, hk, hx⟩ := laI_split e2
            rw [hx, if_neg (by omega), Int.toNat_natCast, upd_other]
            · exact g2
            · intro e3
              have := hnd2.1
              rw [hk, e3] at this; simp [List.nodup_append] at this
    · rw [upd_other e] at hsp
      have hm : m ∈ R s := by rw [hsp]; simp
      have hmn := hoth s hsr e m hm
      obtain ⟨g1, g2⟩ := h.lk s hsr k1 m k2 hsp
      have hmr : m ∉ R r := fun h' => e (h.other hsr hr hm h')
      rw [upd_other hmn, upd_other hmn]
      refine ⟨?_, ?_⟩
      · split
        · exact g1
        · rename_i hne
          have hl2 : l2 ≠ [] := fun e => hne (by rw [hf, e]; rfl)
          obtain ⟨a, t, rfl⟩ : ∃ a t, l2 = a :: t := by cases l2 with | nil => exact absurd rfl hl2 | cons a t => exact ⟨a, t, rfl⟩
          rw [hf]
          simp only [hdI, Int.toNat_natCast]
          rw [upd_other]
          · exact g1
          · intro e3; exact hmr (by rw [hs, e3]; simp)
      · split
        · exact g2
        · rename_i hne
          obtain ⟨k, x, hk, hx⟩ := laI_split (l := l1) (fun e => hne (by rw [ha, e]; rfl))
          rw [ha, hx, Int.toNat_natCast, upd_other]
          · exact g2
          · intro e3; exact hmr (by rw [hs, hk, e3]; simp)
  · rw [hp]
    simp only [hF]
    have inj0 : ∀ i j, i < A.nf + 1 → j < A.nf + 1 → upd A.fr A.nf n i = upd A.fr A.nf n j → i = j := by
      intro i j hi hj eq
      by_cases e1 : i = A.nf <;> by_cases e2 : j = A.nf
      · omega
      · rw [e1, upd_same, upd_other e2] at eq
        obtain ⟨m, _, h2, h3⟩ := h.ho.mem j (by omega)
        have : m = n := by omega
        subst this; omega
      · rw [e2, upd_same, upd_other e1] at eq
        obtain ⟨m, _, h2, h3⟩ := h.ho.mem i (by omega)
        have : m = n := by omega
        subst this; omega
      · rw [upd_other e1, upd_other e2] at eq; exact h.ho.inj i j (by omega) (by omega) eq
    refine siftUp_heap _ _ _ _ (by omega) (by omega) inj0 (fun j hj hjn hjk => ?_) (fun _ j hj hjn hjk => by omega)
    rw [upd_other hjk, upd_other (by omega)]
    exact h.hp j hj (by omega)
  · rw [hp]
    simp only [hF]
    refine siftUp_holds _ _ _ _ _ (by omega) ⟨fun i hi => ?_, fun x hx => ?_, fun i j hi hj eq => ?_⟩
    · by_cases e1 : i = A.nf
      · rw [e1, upd_same]; exact ⟨n, hnr, upd_same _ _ _, rfl⟩
      · rw [upd_other e1]
        obtain ⟨m, a1, a2, a3⟩ := h.ho.mem i (by omega)
        exact ⟨m, a1, by rw [upd_other (fun e => by subst e; omega)]; exact a2, a3⟩
    · obtain ⟨m, a1, a2, a3⟩ := hx
      by_cases e1 : m = n
      · exact ⟨A.nf, by omega, by rw [upd_same, a3, e1]⟩
      · rw [upd_other e1] at a2
        obtain ⟨i, hi, hi'⟩ := h.ho.all x ⟨m, a1, a2, a3⟩
        exact ⟨i, by omega, by rw [upd_other (by omega)]; exact hi'⟩
    · by_cases e1 : i = A.nf <;> by_cases e2 : j = A.nf
      · omega
      · rw [e1, upd_same, upd_other e2] at eq
        obtain ⟨m, _, h2, h3⟩ := h.ho.mem j (by omega)
        have : m = n := by omega
        subst this; omega
      · rw [e2, upd_same, upd_other e1] at eq
        obtain ⟨m, _, h2, h3⟩ := h.ho.mem i (by omega)
        have : m = n := by omega
        subst this; omega
      · rw [upd_other e1, upd_other e2] at eq; exact h.ho.inj i j (by omega) (by omega) eq
  · rw [hp]
    show A.nf + 1 ≤ A.room
    omega

/-- A new arena has no things. -/
theorem Rep.init (gl gr gf nr room : Nat) (z : Value) : Rep (Ar.init gl gr gf nr room z) (fun _ => []) := by
  refine ⟨fun _ _ _ h => by simp at h, fun _ _ _ h => by simp at h, fun _ _ => List.nodup_nil, fun _ _ => .inl rfl, fun _ _ => rfl, fun _ _ => rfl, fun _ _ => rfl, fun _ _ l1 n l2 h => by simp at h, fun i _ hi => ?_, ⟨fun i hi => ⟨i, hi, rfl, rfl⟩, fun x hx => ?_, fun i j _ _ e => ?_⟩, Nat.le_refl _⟩
  · simp only [Ar.init]; omega
  · obtain ⟨m, h1, _, h3⟩ := hx; exact ⟨m, h1, h3.symm⟩
  · simp only [Ar.init] at e; omega
/-- A thing that lies in a row leaves room. -/
theorem Rep.nf_lt {A : Ar} {R : Nat → List Nat} (h : Rep A R) {n : Nat} (hn : n < A.room) (ho : A.ro n ≠ -1) : A.nf < A.room := by
  have hnd : ((List.range A.nf).map fun i => (A.fr i).toNat).Nodup := by
    unfold List.Nodup
    rw [List.pairwise_map]
    refine List.Pairwise.imp_of_mem (fun {i j} hi hj hne e => ?_) (List.nodup_range (n := A.nf))
    have hi' : i < A.nf := by simpa using hi
    have hj' : j < A.nf := by simpa using hj
    obtain ⟨m, _, _, h3⟩ := h.ho.mem i hi'
    obtain ⟨m', _, _, h3'⟩ := h.ho.mem j hj'
    rw [h3, h3'] at e
    simp at e
    exact hne (h.ho.inj i j hi' hj' (by rw [h3, h3', e]))
  have hle2 := nodup_len A.room (n :: (List.range A.nf).map fun i => (A.fr i).toNat) (List.nodup_cons.2 ⟨fun hm => ?_, hnd⟩) (fun x hx => ?_)
  · simp at hle2; omega
  · obtain ⟨i, hi, e⟩ := List.mem_map.1 hm
    obtain ⟨m, h1, h2, h3⟩ := h.ho.mem i (by simpa using hi)
    rw [h3] at e
    simp at e
    exact ho (e ▸ h2)
  · rcases List.mem_cons.1 hx with h1 | h1
    · omega
    · obtain ⟨i, hi, e⟩ := List.mem_map.1 h1
      obtain ⟨m, h1, h2, h3⟩ := h.ho.mem i (by simpa using hi)
      rw [h3] at e; simp at e; omega
end Od
end Go.Proofs.Ytilngakgofjmpaa

/- Slots: what the calls do to rows of numbers and the things of the numbers: contracts with no links and no heap in sight. Conditions: an arena as New lays it, at most 65536 rows and numbers. -/
namespace Go.Proofs.Ytilngakgofjmpaa
set_option linter.unusedVariables false
set_option linter.unusedSimpArgs false
namespace Od
open Go.RowKit

/-- An order's five numbers. -/
structure OrdR where
  i : Int
  c : Int
  s : Int
  p : Int
  q : Int

--<shared>
/-- A number that stands in no row. -/
def FreeN (nr room : Nat) (R : Nat → List Nat) (n : Nat) : Prop := n < room ∧ ∀ r, r < nr → n ∉ R r
/-- The blocks of an arena. -/
def Blk4 (b gl gr gf : Nat) (i : Nat) : Prop := i = b ∨ i = gl ∨ i = gr ∨ i = gf

theorem Rep.free {A : Ar} {R : Nat → List Nat} (h : Rep A R) {n : Nat} (hn : n < A.room) : A.ro n = -1 ↔ FreeN A.nr A.room R n := by
  constructor
  · intro e
    exact ⟨hn, fun r hr hm => by have := h.ro r hr n hm; omega⟩
  · intro e
    rcases h.fr n hn with h1 | ⟨r, hr, _, h2⟩
    · exact h1
    · exact absurd h2 (e.2 r hr)
theorem Rep.has {A : Ar} {R : Nat → List Nat} (h : Rep A R) {r n : Nat} (hr : r < A.nr) (hn : n ∈ R r) : A.hasN n :=
  ⟨⟨by omega, by have := h.lt r hr n hn; omega⟩, by rw [Int.toNat_natCast, h.ro r hr n hn]; omega⟩
theorem Rep.hasNo {A : Ar} {R : Nat → List Nat} (h : Rep A R) {n : Int} (hn : ∀ r, r < A.nr → ∀ m ∈ R r, (m : Int) ≠ n) : ¬ A.hasN n := by
  rintro ⟨⟨h1, h2⟩, h3⟩
  rcases h.fr n.toNat (by omega) with h4 | ⟨r, hr, _, h5⟩
  · exact h3 h4
  · exact hn r hr _ h5 (by omega)

--</shared>
structure LayA (w : World) (b gl gr gf nr room : Nat) (R : Nat → List Nat) (V : Nat → OrdR) (A : Ar) : Prop where
  at_ : ArAt w b A
  rep : Rep A R
  egl : A.gl = gl
  egr : A.gr = gr
  egf : A.gf = gf
  enr : A.nr = nr
  erm : A.room = room
  th : ∀ n, n < room → A.th n = .agg #[.int .i64 (V n).i, .int .i64 (V n).c, .int .u8 (V n).s, .int .i64 (V n).p, .int .i64 (V n).q]
/-- An arena lies there: of each row its numbers, of each number its thing. -/
def Lay (w : World) (b gl gr gf nr room : Nat) (R : Nat → List Nat) (V : Nat → OrdR) : Prop := ∃ A, LayA w b gl gr gf nr room R V A

theorem Lay.small {w : World} {b gl gr gf nr room : Nat} {R : Nat → List Nat} {V : Nat → OrdR} (h : Lay w b gl gr gf nr room R V) : room ≤ 65536 ∧ nr ≤ 65536 := by
  obtain ⟨A, h⟩ := h
  have := h.at_.small
  have := h.enr
  have := h.erm
  omega
theorem Lay.lt {w : World} {b gl gr gf nr room : Nat} {R : Nat → List Nat} {V : Nat → OrdR} (h : Lay w b gl gr gf nr room R V) {r n : Nat} (hr : r < nr) (hn : n ∈ R r) : n < room := by
  obtain ⟨A, h⟩ := h
  have := h.rep.lt r (by rw [h.enr]; exact hr) n hn
  rwa [h.erm] at this
theorem Lay.nd {w : World} {b gl gr gf nr room : Nat} {R : Nat → List Nat} {V : Nat → OrdR} (h : Lay w b gl gr gf nr room R V) {r : Nat} (hr : r < nr) : (R r).Nodup := by
  obtain ⟨A, h⟩ := h
  exact h.rep.nd r (by rw [h.enr]; exact hr)
theorem Lay.other {w : World} {b gl gr gf nr room : Nat} {R : Nat → List Nat} {V : Nat → OrdR} (h : Lay w b gl gr gf nr room R V) {r s n : Nat} (hr : r < nr) (hs : s < nr) (hn : n ∈ R r) (hm : n ∈ R s) : r = s := by
  obtain ⟨A, h⟩ := h
  exact h.rep.other (by rw [h.enr]; exact hr) (by rw [h.enr]; exact hs) hn hm
theorem Lay.blk {w : World} {b gl gr gf nr room : Nat} {R : Nat → List Nat} {V : Nat → OrdR} (h : Lay w b gl gr gf nr room R V) (i : Nat) (hi : Blk4 b gl gr gf i) : i < w.heap.size := by
  obtain ⟨A, h⟩ := h
  have h1 := h.at_.c0.lt
  have h2 := h.at_.lr
  have h3 := h.at_.gf_lt
  rw [h.egl, h.egr] at h2
  rw [h.egf] at h3
  rcases hi with e | e | e | e <;> subst e
  · exact h1
  · exact h2.1
  · exact h2.2
  · exact h3
theorem Lay.keep {w w' : World} {b gl gr gf nr room : Nat} {R : Nat → List Nat} {V : Nat → OrdR} (h : Lay w b gl gr gf nr room R V) {S : Nat → Prop} (ho : Only S w w') (hS : ∀ i, Blk4 b gl gr gf i → ¬ S i) : Lay w' b gl gr gf nr room R V := by
  obtain ⟨A, h⟩ := h
  exact ⟨A, ⟨h.at_.only ho (hS b (.inl rfl)) (hS A.gl (.inr (.inl h.egl))) (hS A.gr (.inr (.inr (.inl h.egr)))) (hS A.gf (.inr (.inr (.inr h.egf)))), h.rep, h.egl, h.egr, h.egf, h.enr, h.erm, h.th⟩⟩

def HNew (w : World) (nr room : Nat) (e : Ending) (w' : World) : Prop :=
  ∃ b gl gr gf, e = .returned (.tuple #[.pointer (some ⟨b, 0, none⟩), .int .i64 0]) ∧ Lay w' b gl gr gf nr room (fun _ => []) (fun _ => ⟨0, 0, 0, 0, 0⟩) ∧ Only (fun _ => False) w w' ∧ w.heap.size ≤ b ∧ w.heap.size ≤ gl ∧ w.heap.size ≤ gr ∧ w.heap.size ≤ gf

theorem h_new (w : World) (nr room : Nat) (h1 : 1 ≤ nr) (h2 : nr ≤ 65536) (h3 : room ≤ 65536) :
    Calls Try.prog 74 #[.int .i64 nr, .int .i64 room] w (HNew w nr room) := by
  refine (s_new w nr room h1 h2 h3).mono fun e w' h => ?_
  obtain ⟨b, gl, gr, gf, he, hA, ho, g1, g2, g3, g4⟩ := h
  exact ⟨b, gl, gr, gf, he, ⟨_, hA, Rep.init _ _ _ _ _ _, rfl, rfl, rfl, rfl, rfl, fun _ _ => rfl⟩, ho, g1, g2, g3, g4⟩

theorem h_push (w : World) (b gl gr gf nr room : Nat) (R : Nat → List Nat) (V : Nat → OrdR) (h : Lay w b gl gr gf nr room R V) (r n : Nat) (v : OrdR) (hr : r < nr) (hn : FreeN nr room R n) (hmin : ∀ m, FreeN nr room R m → n ≤ m) :
    Calls Try.prog 78 #[.pointer (some ⟨b, 0, none⟩), .int .i64 r, .agg #[.int .i64 v.i, .int .i64 v.c, .int .u8 v.s, .int .i64 v.p, .int .i64 v.q]] w fun e w' => e = .returned (.tuple #[.int .i64 n, .int .i64 0]) ∧ Lay w' b gl gr gf nr room (upd R r (R r ++ [n])) (upd V n v) ∧ Only (Blk4 b gl gr gf) w w' := by
  obtain ⟨A, hA, hR, rfl, rfl, rfl, rfl, rfl, ht⟩ := h
  have hs := hA.small
  have hro := (hR.free hn.1).2 hn
  obtain ⟨i, hi, _⟩ := hR.ho.all n ⟨n, hn.1, hro, rfl⟩
  have hnf : 0 < A.nf := by omega
  obtain ⟨m, h1, h2, h3, h4, _⟩ := hR.least hnf
  have e1 : n ≤ m := hmin m ((hR.free h2).1 h3)
  have e2 : m ≤ n := h4 n hn.1 hro
  obtain rfl : m = n := by omega
  have hla := hR.la r hr
  have hln := hR.ln r hr
  have hlen := hR.len hr
  refine (s_push w b A r v.i v.c v.s v.p v.q hA hr hnf m h1 h2 ?_ ⟨by omega, by omega⟩).mono fun e w' ⟨p1, p2, p3⟩ => ⟨p1, ⟨_, p2, hR.push hr hnf h1 _, rfl, rfl, rfl, rfl, rfl, fun k hk => ?_⟩, p3⟩
  · by_cases e : R r = []
    · exact .inl (by rw [hla, e]; rfl)
    · obtain ⟨k, x, hk, hx⟩ := laI_split e
      have := hR.lt r hr x (by rw [hk]; simp)
      exact .inr ⟨by omega, by omega⟩
  · have e : (A.push r (.agg #[.int .i64 v.i, .int .i64 v.c, .int .u8 v.s, .int .i64 v.p, .int .i64 v.q])).th = upd A.th m (.agg #[.int .i64 v.i, .int .i64 v.c, .int .u8 v.s, .int .i64 v.p, .int .i64 v.q]) := by unfold Ar.push; rw [h1]; rfl
    rw [e]
    by_cases e2 : k = m
    · subst e2; rw [upd_same, upd_same]
    · rw [upd_other e2, upd_other e2]; exact ht k hk

theorem h_push_bad (w : World) (b gl gr gf nr room : Nat) (R : Nat → List Nat) (V : Nat → OrdR) (h : Lay w b gl gr gf nr room R V) (r : Int) (v : OrdR) (hr : ¬ (0 ≤ r ∧ r < nr)) :
    Calls Try.prog 78 #[.pointer (some ⟨b, 0, none⟩), .int .i64 r, .agg #[.int .i64 v.i, .int .i64 v.c, .int .u8 v.s, .int .i64 v.p, .int .i64 v.q]] w fun e w' => e = .returned (.tuple #[.int .i64 0, .int .i64 1]) ∧ Only (fun _ => False) w w' := by
  obtain ⟨A, hA, hR, rfl, rfl, rfl, rfl, rfl, ht⟩ := h
  exact s_push_bad w b A r v.i v.c v.s v.p v.q hA hr

theorem h_push_full (w : World) (b gl gr gf nr room : Nat) (R : Nat → List Nat) (V : Nat → OrdR) (h : Lay w b gl gr gf nr room R V) (r : Int) (v : OrdR) (hr : 0 ≤ r ∧ r < nr) (hn : ∀ n, ¬ FreeN nr room R n) :
    Calls Try.prog 78 #[.pointer (some ⟨b, 0, none⟩), .int .i64 r, .agg #[.int .i64 v.i, .int .i64 v.c, .int .u8 v.s, .int .i64 v.p, .int .i64 v.q]] w fun e w' => e = .returned (.tuple #[.int .i64 0, .int .i64 40]) ∧ Only (fun _ => False) w w' := by
  obtain ⟨A, hA, hR, rfl, rfl, rfl, rfl, rfl, ht⟩ := h
  refine s_push_full w b A r v.i v.c v.s v.p v.q hA hr ?_
  rcases Nat.eq_zero_or_pos A.nf with h0 | h0
  · exact h0
  · obtain ⟨m, h1, h2, h3, _⟩ := hR.least h0
    exact absurd ((hR.free h2).1 h3) (hn m)

theorem h_take_no (w : World) (b gl gr gf nr room : Nat) (R : Nat → List Nat) (V : Nat → OrdR) (h : Lay w b gl gr gf nr room R V) (n : Int) (hn : ∀ r, r < nr → ∀ m ∈ R r, (m : Int) ≠ n) :
    Calls Try.prog 81 #[.pointer (some ⟨b, 0, none⟩), .int .i64 n] w fun e w' => e = .returned (.tuple #[.agg #[.int .i64 0, .int .i64 0, .int .u8 0, .int .i64 0, .int .i64 0], .bool false]) ∧ Only (fun _ => False) w w' := by
  obtain ⟨A, hA, hR, rfl, rfl, rfl, rfl, rfl, ht⟩ := h
  exact s_take_no w b A n hA (hR.hasNo hn)

theorem h_take (w : World) (b gl gr gf nr room : Nat) (R : Nat → List Nat) (V : Nat → OrdR) (h : Lay w b gl gr gf nr room R V) (r n : Nat) (hr : r < nr) (l1 l2 : List Nat) (hs : R r = l1 ++ n :: l2) :
    Calls Try.prog 81 #[.pointer (some ⟨b, 0, none⟩), .int .i64 n] w fun e w' => e = .returned (.tuple #[.agg #[.int .i64 (V n).i, .int .i64 (V n).c, .int .u8 (V n).s, .int .i64 (V n).p, .int .i64 (V n).q], .bool true]) ∧ Lay w' b gl gr gf nr room (upd R r (l1 ++ l2)) (upd V n ⟨0, 0, 0, 0, 0⟩) ∧ Only (Blk4 b gl gr gf) w w' := by
  obtain ⟨A, hA, hR, rfl, rfl, rfl, rfl, rfl, ht⟩ := h
  have hsm := hA.small
  have hnm : n ∈ R r := by rw [hs]; simp
  have hnr := hR.lt r hr n hnm
  have hro := hR.ro r hr n hnm
  have hln := hR.ln r hr
  have hlen := hR.len hr
  have hpos : 0 < (R r).length := by rw [hs, List.length_append, List.length_cons]; omega
  have hnf := hR.nf_lt hnr (by omega)
  obtain ⟨ha, hf⟩ := hR.lk r hr l1 n l2 hs
  have hv := ht n hnr
  have hc : 1 ≤ A.rn r ∧ A.rn r ≤ 65536 := by omega
  have hnd := hR.nd r hr
  rw [hs] at hnd
  have hnd2 := List.nodup_append.1 hnd
  have n1 : n ∉ l1 := fun hm => hnd2.2.2 n hm n (by simp) rfl
  have n2 : n ∉ l2 := (List.nodup_cons.1 hnd2.2.1).1
  have fin : ∀ e w', (e = Ending.returned (.tuple #[.agg #[.int .i64 (V n).i, .int .i64 (V n).c, .int .u8 (V n).s, .int .i64 (V n).p, .int .i64 (V n).q], .bool true]) ∧ ArAt w' b (A.take n (.agg #[.int .i64 0, .int .i64 0, .int .u8 0, .int .i64 0, .int .i64 0])) ∧ Only (A.blk b) w w') → e = .returned (.tuple #[.agg #[.int .i64 (V n).i, .int .i64 (V n).c, .int .u8 (V n).s, .int .i64 (V n).p, .int .i64 (V n).q], .bool true]) ∧ Lay w' b A.gl A.gr A.gf A.nr A.room (upd R r (l1 ++ l2)) (upd V n ⟨0, 0, 0, 0, 0⟩) ∧ Only (Blk4 b A.gl A.gr A.gf) w w' := by
    intro e w' ⟨p1, p2, p3⟩
    refine ⟨p1, ⟨_, p2, hR.take hr hs hnf _, rfl, rfl, rfl, rfl, rfl, fun k hk => ?_⟩, p3⟩
    show upd A.th n (.agg #[.int .i64 0, .int .i64 0, .int .u8 0, .int .i64 0, .int .i64 0]) k = _
    by_cases e2 : k = n
    · subst e2; rw [upd_same, upd_same]
    · rw [upd_other e2, upd_other e2]; exact ht k hk
  by_cases h1 : l1 = []
  · by_cases h2 : l2 = []
    · exact (s_take_nn w b A n r (V n).i (V n).c (V n).s (V n).p (V n).q hA hnr hro hr hv hc hnf (by rw [ha, h1]; rfl) (by rw [hf, h2]; rfl)).mono fin
    · obtain ⟨f, t, rfl⟩ : ∃ f t, l2 = f :: t := by cases l2 with | nil => exact absurd rfl h2 | cons a t => exact ⟨a, t, rfl⟩
      exact (s_take_ns w b A n r (V n).i (V n).c (V n).s (V n).p (V n).q hA hnr hro hr hv hc hnf (by rw [ha, h1]; rfl) f hf (hR.lt r hr f (by rw [hs]; simp)) (fun e => n2 (by simp [e]))).mono fin
  · obtain ⟨k, a, hk, hx⟩ := laI_split h1
    have har := hR.lt r hr a (by rw [hs, hk]; simp)
    have han : a ≠ n := fun e => n1 (by rw [hk, e]; simp)
    by_cases h2 : l2 = []
    · exact (s_take_sn w b A n r (V n).i (V n).c (V n).s (V n).p (V n).q hA hnr hro hr hv hc hnf a (by rw [ha, hx]) har han (by rw [hf, h2]; rfl)).mono fin
    · obtain ⟨f, t, rfl⟩ : ∃ f t, l2 = f :: t := by cases l2 with | nil => exact absurd rfl h2 | cons a t => exact ⟨a, t, rfl⟩
      exact (s_take_ss w b A n r (V n).i (V n).c (V n).s (V n).p (V n).q hA hnr hro hr hv hc hnf a (by rw [ha, hx]) har han f hf (hR.lt r hr f (by rw [hs]; simp)) (fun e => n2 (by simp [e])) (fun e => hnd2.2.2 a (by rw [hk]; simp) f (by simp) e)).mono fin

theorem h_first (w : World) (b gl gr gf nr room : Nat) (R : Nat → List Nat) (V : Nat → OrdR) (h : Lay w b gl gr gf nr room R V) (r : Nat) (hr : r < nr) :
    Calls Try.prog 139 #[.pointer (some ⟨b, 0, none⟩), .int .i64 r] w fun e w' => e = .returned (.int .i64 (hdI (R r))) ∧ w = w' := by
  obtain ⟨A, hA, hR, rfl, rfl, rfl, rfl, rfl, ht⟩ := h
  have := s_first w b A r hA
  rw [if_pos (show A.isRow r from ⟨by omega, by omega⟩), Int.toNat_natCast, hR.hd r hr] at this
  exact this
theorem h_first_no (w : World) (b gl gr gf nr room : Nat) (R : Nat → List Nat) (V : Nat → OrdR) (h : Lay w b gl gr gf nr room R V) (r : Int) (hr : ¬ (0 ≤ r ∧ r < nr)) :
    Calls Try.prog 139 #[.pointer (some ⟨b, 0, none⟩), .int .i64 r] w fun e w' => e = .returned (.int .i64 (-1)) ∧ w = w' := by
  obtain ⟨A, hA, hR, rfl, rfl, rfl, rfl, rfl, ht⟩ := h
  have := s_first w b A r hA
  rw [if_neg (show ¬ A.isRow r from hr)] at this
  exact this
end Od
end Go.Proofs.Ytilngakgofjmpaa

/- Slots: Get, Set, Row, Len, Free, walked. Conditions: an arena as New lays it. -/
namespace Go.Proofs.Ytilngakgofjmpaa
set_option linter.unusedVariables false
set_option linter.unusedSimpArgs false
namespace Od
open Go.RowKit

set_option maxHeartbeats 1000000 in
theorem s_len (w : World) (b : Nat) (A : Ar) (r : Int) (h : ArAt w b A) :
    Calls Try.prog 82 #[.pointer (some ⟨b, 0, none⟩), .int .i64 r] w fun e w' => e = .returned (.int .i64 (if A.isRow r then A.rn r.toNat else 0)) ∧ w = w' := by
  have HI := Lib.hid (s_is w b A r h)
  have c1 := h.c1.cell
  have hlt := h.c1.lt
  by_cases hr : A.isRow r
  · rw [if_pos hr]
    have e : decide (A.isRow r) = true := by simp [hr]
    rw [e] at HI
    have h1 := hr.1
    have h2 := hr.2
    have c := (h.r2 r.toNat (by omega)).cell
    generalize A.rn r.toNat = x at *
    clear e h hr
    go_enter Try.func82, Try.ntmps82
    go_wp2_with ((go_at_call 127; refine HI.out.mono ?_; rintro e w1 ⟨rfl, rfl⟩))
    go_ret
    exact ⟨rfl, rfl⟩
  · rw [if_neg hr]
    have e : decide (A.isRow r) = false := by simp [hr]
    rw [e] at HI
    clear e h hr
    go_enter Try.func82, Try.ntmps82
    go_wp2_with ((go_at_call 127; refine HI.out.mono ?_; rintro e w1 ⟨rfl, rfl⟩))
    go_ret
    exact ⟨rfl, rfl⟩

set_option maxHeartbeats 1000000 in
theorem s_row (w : World) (b : Nat) (A : Ar) (n : Int) (h : ArAt w b A) :
    Calls Try.prog 80 #[.pointer (some ⟨b, 0, none⟩), .int .i64 n] w fun e w' => e = .returned (.int .i64 (if A.hasN n then A.ro n.toNat else -1)) ∧ w = w' := by
  have HI := Lib.hid (s_has w b A n h)
  have c0 := h.c0.cell
  have hlt := h.c0.lt
  by_cases hr : A.hasN n
  · rw [if_pos hr]
    have e : decide (A.hasN n) = true := by simp [hr]
    rw [e] at HI
    have h1 := hr.1.1
    have h2 := hr.1.2
    have c := (h.l1 n.toNat (by omega)).cell
    generalize A.ro n.toNat = x at *
    clear e h hr
    go_enter Try.func80, Try.ntmps80
    go_wp2_with ((go_at_call 129; refine HI.out.mono ?_; rintro e w1 ⟨rfl, rfl⟩))
    go_ret
    exact ⟨rfl, rfl⟩
  · rw [if_neg hr]
    have e : decide (A.hasN n) = false := by simp [hr]
    rw [e] at HI
    clear e h hr
    go_enter Try.func80, Try.ntmps80
    go_wp2_with ((go_at_call 129; refine HI.out.mono ?_; rintro e w1 ⟨rfl, rfl⟩))
    go_ret
    exact ⟨rfl, rfl⟩
set_option maxHeartbeats 2000000 in
theorem s_get (w : World) (b : Nat) (A : Ar) (n : Int) (v0 v1 v2 v3 v4 : Int) (h : ArAt w b A) (hr : A.hasN n) (hv : A.th n.toNat = .agg #[.int .i64 v0, .int .i64 v1, .int .u8 v2, .int .i64 v3, .int .i64 v4]) :
    Calls Try.prog 99 #[.pointer (some ⟨b, 0, none⟩), .int .i64 n] w fun e w' => e = .returned (.tuple #[.agg #[.int .i64 v0, .int .i64 v1, .int .u8 v2, .int .i64 v3, .int .i64 v4], .bool true]) ∧ Only (fun _ => False) w w' := by
  have h0 := h.alloc (.cells #[.int .i64 0, .int .i64 0, .int .u8 0, .int .i64 0, .int .i64 0] 54)
  have HI := Lib.hid (s_has _ b A n h0)
  have e : decide (A.hasN n) = true := by simp [hr]
  rw [e] at HI
  have c0 := h0.c0.cell
  have hlt := h0.c0.lt
  have h1 := hr.1.1
  have h2 := hr.1.2
  have hgl := h0.lr.1
  have c10 := (h0.l0 n.toNat (by omega) 0 (.int .i64 v0) (by rw [hv]; rfl)).cell
  have c11 := (h0.l0 n.toNat (by omega) 1 (.int .i64 v1) (by rw [hv]; rfl)).cell
  have c12 := (h0.l0 n.toNat (by omega) 2 (.int .u8 v2) (by rw [hv]; rfl)).cell
  have c13 := (h0.l0 n.toNat (by omega) 3 (.int .i64 v3) (by rw [hv]; rfl)).cell
  have c14 := (h0.l0 n.toNat (by omega) 4 (.int .i64 v4) (by rw [hv]; rfl)).cell
  rw [Nat.add_zero] at c10
  have zb0 := Cell.new (w := w) (cs := #[.int .i64 0, .int .i64 0, .int .u8 0, .int .i64 0, .int .i64 0]) (t := 54) (o := 0) rfl
  have zc0 := zb0.cell
  have zf0 := zb0.free
  have zb1 := Cell.new (w := w) (cs := #[.int .i64 0, .int .i64 0, .int .u8 0, .int .i64 0, .int .i64 0]) (t := 54) (o := 1) rfl
  have zc1 := zb1.cell
  have zf1 := zb1.free
  have zb2 := Cell.new (w := w) (cs := #[.int .i64 0, .int .i64 0, .int .u8 0, .int .i64 0, .int .i64 0]) (t := 54) (o := 2) rfl
  have zc2 := zb2.cell
  have zf2 := zb2.free
  have zb3 := Cell.new (w := w) (cs := #[.int .i64 0, .int .i64 0, .int .u8 0, .int .i64 0, .int .i64 0]) (t := 54) (o := 3) rfl
  have zc3 := zb3.cell
  have zf3 := zb3.free
  have zb4 := Cell.new (w := w) (cs := #[.int .i64 0, .int .i64 0, .int .u8 0, .int .i64 0, .int .i64 0]) (t := 54) (o := 4) rfl
  have zc4 := zb4.cell
  have zf4 := zb4.free
  have rr0 : ((((((w.alloc (.cells #[.int .i64 0, .int .i64 0, .int .u8 0, .int .i64 0, .int .i64 0] 54)).setCell ⟨w.heap.size, 0, none⟩ (.int .i64 v0)).setCell ⟨w.heap.size, 1, none⟩ (.int .i64 v1)).setCell ⟨w.heap.size, 2, none⟩ (.int .u8 v2)).setCell ⟨w.heap.size, 3, none⟩ (.int .i64 v3)).setCell ⟨w.heap.size, 4, none⟩ (.int .i64 v4)).cell? ⟨w.heap.size, 0, none⟩ = some (.int .i64 v0) := (show Cell ((((((w.alloc (.cells #[.int .i64 0, .int .i64 0, .int .u8 0, .int .i64 0, .int .i64 0] 54)).setCell ⟨w.heap.size, 0, none⟩ (.int .i64 v0)).setCell ⟨w.heap.size, 1, none⟩ (.int .i64 v1)).setCell ⟨w.heap.size, 2, none⟩ (.int .u8 v2)).setCell ⟨w.heap.size, 3, none⟩ (.int .i64 v3)).setCell ⟨w.heap.size, 4, none⟩ (.int .i64 v4)) w.heap.size 0 (.int .i64 v0) from (((((zb0.set _).far (off_ne (by decide)) _).far (off_ne (by decide)) _).far (off_ne (by decide)) _).far (off_ne (by decide)) _)).cell
  have rr1 : ((((((w.alloc (.cells #[.int .i64 0, .int .i64 0, .int .u8 0, .int .i64 0, .int .i64 0] 54)).setCell ⟨w.heap.size, 0, none⟩ (.int .i64 v0)).setCell ⟨w.heap.size, 1, none⟩ (.int .i64 v1)).setCell ⟨w.heap.size, 2, none⟩ (.int .u8 v2)).setCell ⟨w.heap.size, 3, none⟩ (.int .i64 v3)).setCell ⟨w.heap.size, 4, none⟩ (.int .i64 v4)).cell? ⟨w.heap.size, 1, none⟩ = some (.int .i64 v1) := (show Cell ((((((w.alloc (.cells #[.int .i64 0, .int .i64 0, .int .u8 0, .int .i64 0, .int .i64 0] 54)).setCell ⟨w.heap.size, 0, none⟩ (.int .i64 v0)).setCell ⟨w.heap.size, 1, none⟩ (.int .i64 v1)).setCell ⟨w.heap.size, 2, none⟩ (.int .u8 v2)).setCell ⟨w.heap.size, 3, none⟩ (.int .i64 v3)).setCell ⟨w.heap.size, 4, none⟩ (.int .i64 v4)) w.heap.size 1 (.int .i64 v1) from (((((zb1.far (off_ne (by decide)) _).set _).far (off_ne (by decide)) _).far (off_ne (by decide)) _).far (off_ne (by decide)) _)).cell
  have rr2 : ((((((w.alloc (.cells #[.int .i64 0, .int .i64 0, .int .u8 0, .int .i64 0, .int .i64 0] 54)).setCell ⟨w.heap.size, 0, none⟩ (.int .i64 v0)).setCell ⟨w.heap.size, 1, none⟩ (.int .i64 v1)).setCell ⟨w.heap.size, 2, none⟩ (.int .u8 v2)).setCell ⟨w.heap.size, 3, none⟩ (.int .i64 v3)).setCell ⟨w.heap.size, 4, none⟩ (.int .i64 v4)).cell? ⟨w.heap.size, 2, none⟩ = some (.int .u8 v2) := (show Cell ((((((w.alloc (.cells #[.int .i64 0, .int .i64 0, .int .u8 0, .int .i64 0, .int .i64 0] 54)).setCell ⟨w.heap.size, 0, none⟩ (.int .i64 v0)).setCell ⟨w.heap.size, 1, none⟩ (.int .i64 v1)).setCell ⟨w.heap.size, 2, none⟩ (.int .u8 v2)).setCell ⟨w.heap.size, 3, none⟩ (.int .i64 v3)).setCell ⟨w.heap.size, 4, none⟩ (.int .i64 v4)) w.heap.size 2 (.int .u8 v2) from (((((zb2.far (off_ne (by decide)) _).far (off_ne (by decide)) _).set _).far (off_ne (by decide)) _).far (off_ne (by decide)) _)).cell
  have rr3 : ((((((w.alloc (.cells #[.int .i64 0, .int .i64 0, .int .u8 0, .int .i64 0, .int .i64 0] 54)).setCell ⟨w.heap.size, 0, none⟩ (.int .i64 v0)).setCell ⟨w.heap.size, 1, none⟩ (.int .i64 v1)).setCell ⟨w.heap.size, 2, none⟩ (.int .u8 v2)).setCell ⟨w.heap.size, 3, none⟩ (.int .i64 v3)).setCell ⟨w.heap.size, 4, none⟩ (.int .i64 v4)).cell? ⟨w.heap.size, 3, none⟩ = some (.int .i64 v3) := (show Cell ((((((w.alloc (.cells #[.int .i64 0, .int .i64 0, .int .u8 0, .int .i64 0, .int .i64 0] 54)).setCell ⟨w.heap.size, 0, none⟩ (.int .i64 v0)).setCell ⟨w.heap.size, 1, none⟩ (.int .i64 v1)).setCell ⟨w.heap.size, 2, none⟩ (.int .u8 v2)).setCell ⟨w.heap.size, 3, none⟩ (.int .i64 v3)).setCell ⟨w.heap.size, 4, none⟩ (.int .i64 v4)) w.heap.size 3 (.int .i64 v3) from (((((zb3.far (off_ne (by decide)) _).far (off_ne (by decide)) _).far (off_ne (by decide)) _).set _).far (off_ne (by decide)) _)).cell
  have rr4 : ((((((w.alloc (.cells #[.int .i64 0, .int .i64 0, .int .u8 0, .int .i64 0, .int .i64 0] 54)).setCell ⟨w.heap.size, 0, none⟩ (.int .i64 v0)).setCell ⟨w.heap.size, 1, none⟩ (.int .i64 v1)).setCell ⟨w.heap.size, 2, none⟩ (.int .u8 v2)).setCell ⟨w.heap.size, 3, none⟩ (.int .i64 v3)).setCell ⟨w.heap.size, 4, none⟩ (.int .i64 v4)).cell? ⟨w.heap.size, 4, none⟩ = some (.int .i64 v4) := (show Cell ((((((w.alloc (.cells #[.int .i64 0, .int .i64 0, .int .u8 0, .int .i64 0, .int .i64 0] 54)).setCell ⟨w.heap.size, 0, none⟩ (.int .i64 v0)).setCell ⟨w.heap.size, 1, none⟩ (.int .i64 v1)).setCell ⟨w.heap.size, 2, none⟩ (.int .u8 v2)).setCell ⟨w.heap.size, 3, none⟩ (.int .i64 v3)).setCell ⟨w.heap.size, 4, none⟩ (.int .i64 v4)) w.heap.size 4 (.int .i64 v4) from (((((zb4.far (off_ne (by decide)) _).far (off_ne (by decide)) _).far (off_ne (by decide)) _).far (off_ne (by decide)) _).set _)).cell
  clear e h h0 hr hv zb0 zb1 zb2 zb3 zb4
  go_enter Try.func99, Try.ntmps99
  go_wp2_with ((go_at_call 129; refine HI.out.mono ?_; rintro e w1 ⟨rfl, rfl⟩))
  refine bodyPost_ret (by simp [results, Try.results99, go_sem, rr0, rr1, rr2, rr3, rr4]; try rfl) rfl ?_
  exact ⟨rfl, by repeat' (first | (with_reducible exact Only.refl _ _) | (with_reducible assumption) | (refine Only.of_none ?_; with_reducible assumption) | (with_reducible refine Only.drewN ?_ _) | (with_reducible refine Only.drew ?_) | (with_reducible refine Only.alloc ?_ _) | (with_reducible refine Only.setCell ?_ ?_ _) | (with_reducible refine Only.then0 ?_ (by with_reducible assumption)) | (with_reducible refine Only.thenN ?_ (by with_reducible assumption) ?_) | (with_reducible refine Only.trans ?_ (by with_reducible assumption)) | (refine .inl ?_; first | rfl | (simp; done) | (simp [Ar.blk]; done)) | (refine .inr ?_; first | omega | (simp; done) | (simp; omega) | exact Only.size (by with_reducible assumption) | (refine Nat.le_trans (Only.size (by with_reducible assumption)) ?_; simp; done)))⟩
set_option maxHeartbeats 2000000 in
theorem s_get_no (w : World) (b : Nat) (A : Ar) (n : Int) (h : ArAt w b A) (hr : ¬ A.hasN n) :
    Calls Try.prog 99 #[.pointer (some ⟨b, 0, none⟩), .int .i64 n] w fun e w' => e = .returned (.tuple #[.agg #[.int .i64 0, .int .i64 0, .int .u8 0, .int .i64 0, .int .i64 0], .bool false]) ∧ Only (fun _ => False) w w' := by
  have h0 := h.alloc (.cells #[.int .i64 0, .int .i64 0, .int .u8 0, .int .i64 0, .int .i64 0] 54)
  have HI := Lib.hid (s_has _ b A n h0)
  have e : decide (A.hasN n) = false := by simp [hr]
  rw [e] at HI
  have zb0 := Cell.new (w := w) (cs := #[.int .i64 0, .int .i64 0, .int .u8 0, .int .i64 0, .int .i64 0]) (t := 54) (o := 0) rfl
  have zc0 := zb0.cell
  have zf0 := zb0.free
  have zb1 := Cell.new (w := w) (cs := #[.int .i64 0, .int .i64 0, .int .u8 0, .int .i64 0, .int .i64 0]) (t := 54) (o := 1) rfl
  have zc1 := zb1.cell
  have zf1 := zb1.free
  have zb2 := Cell.new (w := w) (cs := #[.int .i64 0, .int .i64 0, .int .u8 0, .int .i64 0, .int .i64 0]) (t := 54) (o := 2) rfl
  have zc2 := zb2.cell
  have zf2 := zb2.free
  have zb3 := Cell.new (w := w) (cs := #[.int .i64 0, .int .i64 0, .int .u8 0, .int .i64 0, .int .i64 0]) (t := 54) (o := 3) rfl
  have zc3 := zb3.cell
  have zf3 := zb3.free
  have zb4 := Cell.new (w := w) (cs := #[.int .i64 0, .int .i64 0, .int .u8 0, .int .i64 0, .int .i64 0]) (t := 54) (o := 4) rfl
  have zc4 := zb4.cell
  have zf4 := zb4.free
  have rr0 : ((((((w.alloc (.cells #[.int .i64 0, .int .i64 0, .int .u8 0, .int .i64 0, .int .i64 0] 54)).setCell ⟨w.heap.size, 0, none⟩ (.int .i64 0)).setCell ⟨w.heap.size, 1, none⟩ (.int .i64 0)).setCell ⟨w.heap.size, 2, none⟩ (.int .u8 0)).setCell ⟨w.heap.size, 3, none⟩ (.int .i64 0)).setCell ⟨w.heap.size, 4, none⟩ (.int .i64 0)).cell? ⟨w.heap.size, 0, none⟩ = some (.int .i64 0) := (show Cell ((((((w.alloc (.cells #[.int .i64 0, .int .i64 0, .int .u8 0, .int .i64 0, .int .i64 0] 54)).setCell ⟨w.heap.size, 0, none⟩ (.int .i64 0)).setCell ⟨w.heap.size, 1, none⟩ (.int .i64 0)).setCell ⟨w.heap.size, 2, none⟩ (.int .u8 0)).setCell ⟨w.heap.size, 3, none⟩ (.int .i64 0)).setCell ⟨w.heap.size, 4, none⟩ (.int .i64 0)) w.heap.size 0 (.int .i64 0) from (((((zb0.set _).far (off_ne (by decide)) _).far (off_ne (by decide)) _).far (off_ne (by decide)) _).far (off_ne (by decide)) _)).cell
  have rr1 : ((((((w.alloc (.cells #[.int .i64 0, .int .i64 0, .int .u8 0, .int .i64 0, .int .i64 0] 54)).setCell ⟨w.heap.size, 0, none⟩ (.int .i64 0)).setCell ⟨w.heap.size, 1, none⟩ (.int .i64 0)).setCell ⟨w.heap.size, 2, none⟩ (.int .u8 0)).setCell ⟨w.heap.size, 3, none⟩ (.int .i64 0)).setCell ⟨w.heap.size, 4, none⟩ (.int .i64 0)).cell? ⟨w.heap.size, 1, none⟩ = some (.int .i64 0) := (show Cell ((((((w.alloc (.cells #[.int .i64 0, .int .i64 0, .int .u8 0, .int .i64 0, .int .i64 0] 54)).setCell ⟨w.heap.size, 0, none⟩ (.int .i64 0)).setCell ⟨w.heap.size, 1, none⟩ (.int .i64 0)).setCell ⟨w.heap.size, 2, none⟩ (.int .u8 0)).setCell ⟨w.heap.size, 3, none⟩ (.int .i64 0)).setCell ⟨w.heap.size, 4, none⟩ (.int .i64 0)) w.heap.size 1 (.int .i64 0) from (((((zb1.far (off_ne (by decide)) _).set _).far (off_ne (by decide)) _).far (off_ne (by decide)) _).far (off_ne (by decide)) _)).cell
  have rr2 : ((((((w.alloc (.cells #[.int .i64 0, .int .i64 0, .int .u8 0, .int .i64 0, .int .i64 0] 54)).setCell ⟨w.heap.size, 0, none⟩ (.int .i64 0)).setCell ⟨w.heap.size, 1, none⟩ (.int .i64 0)).setCell ⟨w.heap.size, 2, none⟩ (.int .u8 0)).setCell ⟨w.heap.size, 3, none⟩ (.int .i64 0)).setCell ⟨w.heap.size, 4, none⟩ (.int .i64 0)).cell? ⟨w.heap.size, 2, none⟩ = some (.int .u8 0) := (show Cell ((((((w.alloc (.cells #[.int .i64 0, .int .i64 0, .int .u8 0, .int .i64 0, .int .i64 0] 54)).setCell ⟨w.heap.size, 0, none⟩ (.int .i64 0)).setCell ⟨w.heap.size, 1, none⟩ (.int .i64 0)).setCell ⟨w.heap.size, 2, none⟩ (.int .u8 0)).setCell ⟨w.heap.size, 3, none⟩ (.int .i64 0)).setCell ⟨w.heap.size, 4, none⟩ (.int .i64 0)) w.heap.size 2 (.int .u8 0) from (((((zb2.far (off_ne (by decide)) _).far (off_ne (by decide)) _).set _).far (off_ne (by decide)) _).far (off_ne (by decide)) _)).cell
  have rr3 : ((((((w.alloc (.cells #[.int .i64 0, .int .i64 0, .int .u8 0, .int .i64 0, .int .i64 0] 54)).setCell ⟨w.heap.size, 0, none⟩ (.int .i64 0)).setCell ⟨w.heap.size, 1, none⟩ (.int .i64 0)).setCell ⟨w.heap.size, 2, none⟩ (.int .u8 0)).setCell ⟨w.heap.size, 3, none⟩ (.int .i64 0)).setCell ⟨w.heap.size, 4, none⟩ (.int .i64 0)).cell? ⟨w.heap.size, 3, none⟩ = some (.int .i64 0) := (show Cell ((((((w.alloc (.cells #[.int .i64 0, .int .i64 0, .int .u8 0, .int .i64 0, .int .i64 0] 54)).setCell ⟨w.heap.size, 0, none⟩ (.int .i64 0)).setCell ⟨w.heap.size, 1, none⟩ (.int .i64 0)).setCell ⟨w.heap.size, 2, none⟩ (.int .u8 0)).setCell ⟨w.heap.size, 3, none⟩ (.int .i64 0)).setCell ⟨w.heap.size, 4, none⟩ (.int .i64 0)) w.heap.size 3 (.int .i64 0) from (((((zb3.far (off_ne (by decide)) _).far (off_ne (by decide)) _).far (off_ne (by decide)) _).set _).far (off_ne (by decide)) _)).cell
  have rr4 : ((((((w.alloc (.cells #[.int .i64 0, .int .i64 0, .int .u8 0, .int .i64 0, .int .i64 0] 54)).setCell ⟨w.heap.size, 0, none⟩ (.int .i64 0)).setCell ⟨w.heap.size, 1, none⟩ (.int .i64 0)).setCell ⟨w.heap.size, 2, none⟩ (.int .u8 0)).setCell ⟨w.heap.size, 3, none⟩ (.int .i64 0)).setCell ⟨w.heap.size, 4, none⟩ (.int .i64 0)).cell? ⟨w.heap.size, 4, none⟩ = some (.int .i64 0) := (show Cell ((((((w.alloc (.cells #[.int .i64 0, .int .i64 0, .int .u8 0, .int .i64 0, .int .i64 0] 54)).setCell ⟨w.heap.size, 0, none⟩ (.int .i64 0)).setCell ⟨w.heap.size, 1, none⟩ (.int .i64 0)).setCell ⟨w.heap.size, 2, none⟩ (.int .u8 0)).setCell ⟨w.heap.size, 3, none⟩ (.int .i64 0)).setCell ⟨w.heap.size, 4, none⟩ (.int .i64 0)) w.heap.size 4 (.int .i64 0) from (((((zb4.far (off_ne (by decide)) _).far (off_ne (by decide)) _).far (off_ne (by decide)) _).far (off_ne (by decide)) _).set _)).cell
  clear e h h0 hr zb0 zb1 zb2 zb3 zb4
  go_enter Try.func99, Try.ntmps99
  go_wp2_with ((go_at_call 129; refine HI.out.mono ?_; rintro e w1 ⟨rfl, rfl⟩))
  refine bodyPost_ret (by simp [results, Try.results99, go_sem, rr0, rr1, rr2, rr3, rr4]; try rfl) rfl ?_
  exact ⟨rfl, by repeat' (first | (with_reducible exact Only.refl _ _) | (with_reducible assumption) | (refine Only.of_none ?_; with_reducible assumption) | (with_reducible refine Only.drewN ?_ _) | (with_reducible refine Only.drew ?_) | (with_reducible refine Only.alloc ?_ _) | (with_reducible refine Only.setCell ?_ ?_ _) | (with_reducible refine Only.then0 ?_ (by with_reducible assumption)) | (with_reducible refine Only.thenN ?_ (by with_reducible assumption) ?_) | (with_reducible refine Only.trans ?_ (by with_reducible assumption)) | (refine .inl ?_; first | rfl | (simp; done) | (simp [Ar.blk]; done)) | (refine .inr ?_; first | omega | (simp; done) | (simp; omega) | exact Only.size (by with_reducible assumption) | (refine Nat.le_trans (Only.size (by with_reducible assumption)) ?_; simp; done)))⟩
end Od
end Go.Proofs.Ytilngakgofjmpaa

/- Slots of orders: Set. Conditions: an arena as New lays it, at most 65536 rows and numbers. -/
namespace Go.Proofs.Ytilngakgofjmpaa
set_option linter.unusedVariables false
set_option linter.unusedSimpArgs false
namespace Od
open Go.RowKit
set_option maxHeartbeats 1000000 in
theorem s_set_no (w : World) (b : Nat) (A : Ar) (n : Int) (v0 v1 v2 v3 v4 : Int) (h : ArAt w b A) (hr : ¬ A.hasN n) :
    Calls Try.prog 111 #[.pointer (some ⟨b, 0, none⟩), .int .i64 n, .agg #[.int .i64 v0, .int .i64 v1, .int .u8 v2, .int .i64 v3, .int .i64 v4]] w fun e w' => e = .returned (.bool false) ∧ Only (fun _ => False) w w' := by
  have h0 := h.alloc (.cells #[.int .i64 v0, .int .i64 v1, .int .u8 v2, .int .i64 v3, .int .i64 v4] 54)
  have HI := Lib.hid (s_has _ b A n h0)
  have e : decide (A.hasN n) = false := by simp [hr]
  rw [e] at HI
  clear e h h0 hr
  go_enter Try.func111, Try.ntmps111
  go_wp2_with ((go_at_call 129; refine HI.out.mono ?_; rintro e w1 ⟨rfl, rfl⟩))
  go_returns
  exact ⟨rfl, by repeat' (first | (with_reducible exact Only.refl _ _) | (with_reducible assumption) | (refine Only.of_none ?_; with_reducible assumption) | (with_reducible refine Only.drewN ?_ _) | (with_reducible refine Only.drew ?_) | (with_reducible refine Only.alloc ?_ _) | (with_reducible refine Only.setCell ?_ ?_ _) | (with_reducible refine Only.then0 ?_ (by with_reducible assumption)) | (with_reducible refine Only.thenN ?_ (by with_reducible assumption) ?_) | (with_reducible refine Only.trans ?_ (by with_reducible assumption)) | (refine .inl ?_; first | rfl | (simp; done) | (simp [Ar.blk]; done)) | (refine .inr ?_; first | omega | (simp; done) | (simp; omega) | exact Only.size (by with_reducible assumption) | (refine Nat.le_trans (Only.size (by with_reducible assumption)) ?_; simp; done)))⟩
set_option maxHeartbeats 2000000 in
set_option maxRecDepth 100000 in
theorem s_set (w : World) (b : Nat) (A : Ar) (n : Nat) (v0 v1 v2 v3 v4 : Int) (h : ArAt w b A) (hr : A.hasN n) :
    Calls Try.prog 111 #[.pointer (some ⟨b, 0, none⟩), .int .i64 n, .agg #[.int .i64 v0, .int .i64 v1, .int .u8 v2, .int .i64 v3, .int .i64 v4]] w fun e w' => e = .returned (.bool true) ∧ ArAt w' b { A with th := upd A.th n (.agg #[.int .i64 v0, .int .i64 v1, .int .u8 v2, .int .i64 v3, .int .i64 v4]) } ∧ Only (A.blk b) w w' := by
  have h0 := h.alloc (.cells #[.int .i64 v0, .int .i64 v1, .int .u8 v2, .int .i64 v3, .int .i64 v4] 54)
  have HI := Lib.hid (s_has _ b A n h0)
  have c0 := h0.c0.cell
  have hlt := h0.c0.lt
  have hglw := h0.lr.1
  have e : decide (A.hasN n) = true := by simp [hr]
  rw [e] at HI
  have h2 : n < A.room := by have := hr.1.2; omega
  have ii : (0 : Int) ≤ (n : Int) ∧ (n : Int) < (A.room : Int) := by omega
  have hsz : (A.th n).cells.size = 5 := h.tc n h2
  obtain ⟨q0, t00, u00⟩ : ∃ u, Cell (w.alloc (.cells #[.int .i64 v0, .int .i64 v1, .int .u8 v2, .int .i64 v3, .int .i64 v4] 54)) A.gl (n * 8 + 0) u := ⟨_, h0.l0 n h2 0 _ (Array.getElem?_eq_getElem (by omega))⟩
  obtain ⟨q1, t01, u01⟩ : ∃ u, Cell (w.alloc (.cells #[.int .i64 v0, .int .i64 v1, .int .u8 v2, .int .i64 v3, .int .i64 v4] 54)) A.gl (n * 8 + 1) u := ⟨_, h0.l0 n h2 1 _ (Array.getElem?_eq_getElem (by omega))⟩
  obtain ⟨q2, t02, u02⟩ : ∃ u, Cell (w.alloc (.cells #[.int .i64 v0, .int .i64 v1, .int .u8 v2, .int .i64 v3, .int .i64 v4] 54)) A.gl (n * 8 + 2) u := ⟨_, h0.l0 n h2 2 _ (Array.getElem?_eq_getElem (by omega))⟩
  obtain ⟨q3, t03, u03⟩ : ∃ u, Cell (w.alloc (.cells #[.int .i64 v0, .int .i64 v1, .int .u8 v2, .int .i64 v3, .int .i64 v4] 54)) A.gl (n * 8 + 3) u := ⟨_, h0.l0 n h2 3 _ (Array.getElem?_eq_getElem (by omega))⟩
  obtain ⟨q4, t04, u04⟩ : ∃ u, Cell (w.alloc (.cells #[.int .i64 v0, .int .i64 v1, .int .u8 v2, .int .i64 v3, .int .i64 v4] 54)) A.gl (n * 8 + 4) u := ⟨_, h0.l0 n h2 4 _ (Array.getElem?_eq_getElem (by omega))⟩
  have zc0 := (Cell.new (w := w) (cs := #[.int .i64 v0, .int .i64 v1, .int .u8 v2, .int .i64 v3, .int .i64 v4]) (t := 54) (o := 0) rfl).cell
  have zc1 := (Cell.new (w := w) (cs := #[.int .i64 v0, .int .i64 v1, .int .u8 v2, .int .i64 v3, .int .i64 v4]) (t := 54) (o := 1) rfl).cell
  have zc2 := (Cell.new (w := w) (cs := #[.int .i64 v0, .int .i64 v1, .int .u8 v2, .int .i64 v3, .int .i64 v4]) (t := 54) (o := 2) rfl).cell
  have zc3 := (Cell.new (w := w) (cs := #[.int .i64 v0, .int .i64 v1, .int .u8 v2, .int .i64 v3, .int .i64 v4]) (t := 54) (o := 3) rfl).cell
  have zc4 := (Cell.new (w := w) (cs := #[.int .i64 v0, .int .i64 v1, .int .u8 v2, .int .i64 v3, .int .i64 v4]) (t := 54) (o := 4) rfl).cell
  rw [Nat.add_zero] at t00 u00
  have HAr := Lib.hid h
  have HW := Lib.hid (fun W (hW : ArAt W b A) => hW.set_th (i := n) h2 (.int .i64 v0) (.int .i64 v1) (.int .u8 v2) (.int .i64 v3) (.int .i64 v4))
  simp only [put5] at HW
  clear e h h0 hr hsz
  go_enter Try.func111, Try.ntmps111
  go_wp2_with ((go_at_call 129; refine HI.out.mono ?_; rintro e w1 ⟨rfl, rfl⟩))
  have O0 := Lib.hid ((Only.refl (A.blk b) w).alloc (.cells #[.int .i64 v0, .int .i64 v1, .int .u8 v2, .int .i64 v3, .int .i64 v4] 54))
  have HA0 := Lib.hid (HAr.out.alloc (.cells #[.int .i64 v0, .int .i64 v1, .int .u8 v2, .int .i64 v3, .int .i64 v4] 54))
  clear HAr
  generalize w.alloc (.cells #[.int .i64 v0, .int .i64 v1, .int .u8 v2, .int .i64 v3, .int .i64 v4] 54) = W0 at *
  have O1 := O0.out
  go_still_tail 8, (by kernel_rfl)
  change wpList _ _ _ _ _ W0.drew
  go_wp2_with fail
  go_returns
  exact ⟨rfl, (HW.out _ HA0.out).drew, by (repeat' (first | (with_reducible exact Only.refl _ _) | (with_reducible assumption) | (refine Only.of_none ?_; with_reducible assumption) | (with_reducible refine Only.drewN ?_ _) | (with_reducible refine Only.drew ?_) | (with_reducible refine Only.alloc ?_ _) | (with_reducible refine Only.setCell ?_ ?_ _) | (with_reducible refine Only.then0 ?_ (by with_reducible assumption)) | (with_reducible refine Only.thenN ?_ (by with_reducible assumption) ?_) | (with_reducible refine Only.trans ?_ (by with_reducible assumption)) | (refine .inl ?_; first | rfl | (simp; done) | (simp [Ar.blk]; done)) | (refine .inr ?_; first | omega | (simp; done) | (simp; omega) | exact Only.size (by with_reducible assumption) | (refine Nat.le_trans (Only.size (by with_reducible assumption)) ?_; simp; done)))); all_goals exact O1⟩
end Od
end Go.Proofs.Ytilngakgofjmpaa

/- Slots: Get, Set, Row, Len, Free over rows of numbers. Conditions: an arena as New lays it. -/
namespace Go.Proofs.Ytilngakgofjmpaa
set_option linter.unusedVariables false
set_option linter.unusedSimpArgs false
namespace Od
open Go.RowKit

/-- The numbers of the first rows. -/
def rowsL (R : Nat → List Nat) : Nat → List Nat
  | 0 => []
  | n + 1 => rowsL R n ++ R n
theorem mem_rowsL {R : Nat → List Nat} {x : Nat} : ∀ {n : Nat}, x ∈ rowsL R n ↔ ∃ r, r < n ∧ x ∈ R r := by
  intro n
  induction n with
  | zero => simp [rowsL]
  | succ n ih =>
    simp only [rowsL, List.mem_append, ih]
    constructor
    · rintro (⟨r, h1, h2⟩ | h)
      · exact ⟨r, by omega, h2⟩
      · exact ⟨n, by omega, h⟩
    · rintro ⟨r, h1, h2⟩
      by_cases e : r = n
      · exact .inr (e ▸ h2)
      · exact .inl ⟨r, by omega, h2⟩
theorem nodup_sub : ∀ (l m : List Nat), l.Nodup → (∀ x ∈ l, x ∈ m) → l.length ≤ m.length := by
  intro l
  induction l with
  | nil => intro m _ _; simp
  | cons a t ih =>
    intro m hn hs
    have ha := hs a (by simp)
    have h2 := List.nodup_cons.1 hn
    have := ih (m.erase a) h2.2 (fun x hx => by
      have hne : x ≠ a := fun e => h2.1 (by rw [← e]; exact hx)
      exact (List.mem_erase_of_ne hne).2 (hs x (by simp [hx])))
    rw [List.length_erase_of_mem ha] at this
    have := List.length_pos_of_mem ha
    simp only [List.length_cons]
    omega

theorem Rep.count {A : Ar} {R : Nat → List Nat} (h : Rep A R) : A.nf + (rowsL R A.nr).length = A.room := by
  have hrows : ∀ n, n ≤ A.nr → (rowsL R n).Nodup := by
    intro n
    induction n with
    | zero => intro _; exact List.nodup_nil
    | succ n ih =>
      intro hn
      rw [rowsL, List.nodup_append]
      refine ⟨ih (by omega), h.nd n (by omega), fun a ha b hb e => ?_⟩
      obtain ⟨r, hr, hm⟩ := mem_rowsL.1 ha
      have := h.other (by omega) (by omega) hm (show a ∈ R n by rw [e]; exact hb)
      omega
  have hF : ((List.range A.nf).map fun i => (A.fr i).toNat).Nodup := by
    unfold List.Nodup
    rw [List.pairwise_map]
    refine List.Pairwise.imp_of_mem (fun {i j} hi hj hne e => ?_) (List.nodup_range (n := A.nf))
    have hi' : i < A.nf := by simpa using hi
    have hj' : j < A.nf := by simpa using hj
    obtain ⟨m, _, _, h3⟩ := h.ho.mem i hi'
    obtain ⟨m', _, _, h3'⟩ := h.ho.mem j hj'
    rw [h3, h3'] at e
    simp at e
    exact hne (h.ho.inj i j hi' hj' (by rw [h3, h3', e]))
  have hmF : ∀ x, x ∈ ((List.range A.nf).map fun i => (A.fr i).toNat) → x < A.room ∧ A.ro x = -1 := by
    intro x hx
    obtain ⟨i, hi, e⟩ := List.mem_map.1 hx
    obtain ⟨m, h1, h2, h3⟩ := h.ho.mem i (by simpa using hi)
    rw [h3] at e
    simp at e
    exact ⟨by omega, by rw [← e]; exact h2⟩
  have hall : (((List.range A.nf).map fun i => (A.fr i).toNat) ++ rowsL R A.nr).Nodup := by
    rw [List.nodup_append]
    refine ⟨hF, hrows _ (Nat.le_refl _), fun a ha b hb e => ?_⟩
    obtain ⟨r, hr, hm⟩ := mem_rowsL.1 hb
    have h1 := (hmF a ha).2
    have h2 := h.ro r hr b hm
    rw [e] at h1
    omega
  have up := nodup_len A.room _ hall (fun x hx => by
    rcases List.mem_append.1 hx with h1 | h1
    · exact (hmF x h1).1
    · obtain ⟨r, hr, hm⟩ := mem_rowsL.1 h1
      exact h.lt r hr x hm)
  have lo := nodup_sub (List.range A.room) (((List.range A.nf).map fun i => (A.fr i).toNat) ++ rowsL R A.nr) List.nodup_range (fun x hx => by
    have hx : x < A.room := by simpa using hx
    rw [List.mem_append]
    rcases h.fr x hx with h1 | ⟨r, hr, _, h2⟩
    · obtain ⟨i, hi, hi'⟩ := h.ho.all x ⟨x, hx, h1, rfl⟩
      exact .inl (List.mem_map.2 ⟨i, by simpa using hi, by rw [hi']; simp⟩)
    · exact .inr (mem_rowsL.2 ⟨r, hr, h2⟩))
  simp at up lo
  omega

variable (w : World) (b gl gr gf nr room : Nat) (R : Nat → List Nat) (V : Nat → OrdR)

theorem h_get (h : Lay w b gl gr gf nr room R V) (r n : Nat) (hr : r < nr) (hn : n ∈ R r) :
    Calls Try.prog 99 #[.pointer (some ⟨b, 0, none⟩), .int .i64 n] w fun e w' => e = .returned (.tuple #[.agg #[.int .i64 (V n).i, .int .i64 (V n).c, .int .u8 (V n).s, .int .i64 (V n).p, .int .i64 (V n).q], .bool true]) ∧ Only (fun _ => False) w w' := by
  obtain ⟨A, hA, hR, rfl, rfl, rfl, rfl, rfl, ht⟩ := h
  exact s_get w b A n (V n).i (V n).c (V n).s (V n).p (V n).q hA (hR.has hr hn) (by rw [Int.toNat_natCast]; exact ht n (hR.lt r hr n hn))
theorem h_get_no (h : Lay w b gl gr gf nr room R V) (n : Int) (hn : ∀ r, r < nr → ∀ m ∈ R r, (m : Int) ≠ n) :
    Calls Try.prog 99 #[.pointer (some ⟨b, 0, none⟩), .int .i64 n] w fun e w' => e = .returned (.tuple #[.agg #[.int .i64 0, .int .i64 0, .int .u8 0, .int .i64 0, .int .i64 0], .bool false]) ∧ Only (fun _ => False) w w' := by
  obtain ⟨A, hA, hR, rfl, rfl, rfl, rfl, rfl, ht⟩ := h
  exact s_get_no w b A n hA (hR.hasNo hn)
theorem h_set (h : Lay w b gl gr gf nr room R V) (r n : Nat) (v : OrdR) (hr : r < nr) (hn : n ∈ R r) :
    Calls Try.prog 111 #[.pointer (some ⟨b, 0, none⟩), .int .i64 n, .agg #[.int .i64 v.i, .int .i64 v.c, .int .u8 v.s, .int .i64 v.p, .int .i64 v.q]] w fun e w' => e = .returned (.bool true) ∧ Lay w' b gl gr gf nr room R (upd V n v) ∧ Only (Blk4 b gl gr gf) w w' := by
  obtain ⟨A, hA, hR, rfl, rfl, rfl, rfl, rfl, ht⟩ := h
  refine (s_set w b A n v.i v.c v.s v.p v.q hA (hR.has hr hn)).mono fun e w' ⟨p1, p2, p3⟩ => ⟨p1, ⟨_, p2, ⟨hR.lt, hR.ro, hR.nd, hR.fr, hR.hd, hR.la, hR.ln, hR.lk, hR.hp, hR.ho, hR.nf⟩, rfl, rfl, rfl, rfl, rfl, fun k hk => ?_⟩, p3⟩
  show upd A.th n _ k = _
  by_cases e : k = n
  · subst e; rw [upd_same, upd_same]
  · rw [upd_other e, upd_other e]; exact ht k hk
theorem h_set_no (h : Lay w b gl gr gf nr room R V) (n : Int) (v : OrdR) (hn : ∀ r, r < nr → ∀ m ∈ R r, (m : Int) ≠ n) :
    Calls Try.prog 111 #[.pointer (some ⟨b, 0, none⟩), .int .i64 n, .agg #[.int .i64 v.i, .int .i64 v.c, .int .u8 v.s, .int .i64 v.p, .int .i64 v.q]] w fun e w' => e = .returned (.bool false) ∧ Only (fun _ => False) w w' := by
  obtain ⟨A, hA, hR, rfl, rfl, rfl, rfl, rfl, ht⟩ := h
  exact s_set_no w b A n v.i v.c v.s v.p v.q hA (hR.hasNo hn)
theorem h_row (h : Lay w b gl gr gf nr room R V) (r n : Nat) (hr : r < nr) (hn : n ∈ R r) :
    Calls Try.prog 80 #[.pointer (some ⟨b, 0, none⟩), .int .i64 n] w fun e w' => e = .returned (.int .i64 r) ∧ w = w' := by
  obtain ⟨A, hA, hR, rfl, rfl, rfl, rfl, rfl, ht⟩ := h
  have := s_row w b A n hA
  rw [if_pos (hR.has hr hn), Int.toNat_natCast, hR.ro r hr n hn] at this
  exact this
theorem h_row_no (h : Lay w b gl gr gf nr room R V) (n : Int) (hn : ∀ r, r < nr → ∀ m ∈ R r, (m : Int) ≠ n) :
    Calls Try.prog 80 #[.pointer (some ⟨b, 0, none⟩), .int .i64 n] w fun e w' => e = .returned (.int .i64 (-1)) ∧ w = w' := by
  obtain ⟨A, hA, hR, rfl, rfl, rfl, rfl, rfl, ht⟩ := h
  have := s_row w b A n hA
  rw [if_neg (hR.hasNo hn)] at this
  exact this
theorem h_len (h : Lay w b gl gr gf nr room R V) (r : Nat) (hr : r < nr) :
    Calls Try.prog 82 #[.pointer (some ⟨b, 0, none⟩), .int .i64 r] w fun e w' => e = .returned (.int .i64 (R r).length) ∧ w = w' := by
  obtain ⟨A, hA, hR, rfl, rfl, rfl, rfl, rfl, ht⟩ := h
  have := s_len w b A r hA
  rw [if_pos (show A.isRow r from ⟨by omega, by omega⟩), Int.toNat_natCast, hR.ln r hr] at this
  exact this
theorem h_len_no (h : Lay w b gl gr gf nr room R V) (r : Int) (hr : ¬ (0 ≤ r ∧ r < nr)) :
    Calls Try.prog 82 #[.pointer (some ⟨b, 0, none⟩), .int .i64 r] w fun e w' => e = .returned (.int .i64 0) ∧ w = w' := by
  obtain ⟨A, hA, hR, rfl, rfl, rfl, rfl, rfl, ht⟩ := h
  have := s_len w b A r hA
  rw [if_neg (show ¬ A.isRow r from hr)] at this
  exact this
end Od
end Go.Proofs.Ytilngakgofjmpaa

/- Slots: All, a range over a function: its contract. Conditions: an arena as New lays it. -/
namespace Go.Proofs.Ytilngakgofjmpaa
set_option linter.unusedVariables false
set_option linter.unusedSimpArgs false
namespace Od
open Go.RowKit Go.Shelf
attribute [local go_sem] Oper.semAt_some

theorem ArAt.keepB {W W' : World} {b : Nat} {A : Ar} (h : ArAt W b A) {S : Nat → Prop} (k : KeepB S W W') (hb : S b) (hl : S A.gl) (hr : S A.gr) (hf : S A.gf) : ArAt W' b A :=
  ⟨h.c0.blk (k _ hb), h.c1.blk (k _ hb), h.c2.blk (k _ hb), fun i hi c u hu => (h.l0 i hi c u hu).blk (k _ hl), fun i hi => (h.l1 i hi).blk (k _ hl), fun i hi => (h.l2 i hi).blk (k _ hl), fun i hi => (h.l3 i hi).blk (k _ hl),
    fun i hi => (h.r0 i hi).blk (k _ hr), fun i hi => (h.r1 i hi).blk (k _ hr), fun i hi => (h.r2 i hi).blk (k _ hr), (k _ hf).trans h.f, ⟨lt_of_blk h.lr.1 (k _ hl), lt_of_blk h.lr.2 (k _ hr)⟩,
    h.n1, h.n2, h.n3, h.n4, h.n5, h.n6, h.small, h.tc⟩
theorem Lay.keepB {W W' : World} {b gl gr gf nr room : Nat} {R : Nat → List Nat} {V : Nat → OrdR} (h : Lay W b gl gr gf nr room R V) {S : Nat → Prop} (k : KeepB S W W') (hS : ∀ i, Blk4 b gl gr gf i → S i) : Lay W' b gl gr gf nr room R V := by
  obtain ⟨A, h⟩ := h
  exact ⟨A, ⟨h.at_.keepB k (hS b (.inl rfl)) (hS A.gl (.inr (.inl h.egl))) (hS A.gr (.inr (.inr (.inl h.egr)))) (hS A.gf (.inr (.inr (.inr h.egf)))), h.rep, h.egl, h.egr, h.egf, h.enr, h.erm, h.th⟩⟩

/-- How many are left, a number being the next. -/
def leftN (L : List Nat) (i : Int) : Nat := (L.dropWhile fun m : Nat => decide ((m : Int) ≠ i)).length
theorem leftN_eq {L l1 l2 : List Nat} (h : L = l1 ++ l2) (hn : L.Nodup) : leftN L (hdI l2) = l2.length := by
  subst h
  unfold leftN
  congr 1
  induction l1 with
  | nil =>
    cases l2 with
    | nil => rfl
    | cons a t => simp [List.dropWhile, hdI]
  | cons a t ih =>
    have h2 := List.nodup_cons.1 hn
    rw [List.cons_append, List.dropWhile_cons, if_pos, ih h2.2]
    simp only [decide_eq_true_eq]
    cases l2 with
    | nil => simp only [hdI]; omega
    | cons x r => simp only [hdI]; intro e; exact h2.1 (by simp; right; left; omega)

/-- What a round is handed: a number and its thing. -/
abbrev Item := Nat × OrdR
def encI (x : Item) : Array Value := #[.int .i64 x.1, .agg #[.int .i64 x.2.i, .int .i64 x.2.c, .int .u8 x.2.s, .int .i64 x.2.p, .int .i64 x.2.q]]
def KS (b gl gr gf Ba : Nat) (i : Nat) : Prop := Blk4 b gl gr gf i ∨ i = Ba

set_option maxRecDepth 100000 in
set_option maxHeartbeats 4000000 in
theorem all1_in (n : Nat) (hn : 1 ≤ n) (l Ba Br b gl gr gf nr room : Nat) (R : Nat → List Nat) (V : Nat → OrdR) (q : Int) (L : List Nat) (hnd : L.Nodup) (hLr : L = [] ∨ ∃ r, r < nr ∧ R r = L)
    (hfirst : ∀ W, Lay W b gl gr gf nr room R V → Calls Try.prog 139 #[.pointer (some ⟨b, 0, none⟩), .int .i64 q] W fun e w' => e = .returned (.int .i64 (hdI L)) ∧ W = w')
    (J Jx : List Item → World → Prop)
    (hY : ∀ pre x W, J pre W → pre.length < L.length → YieldAt Fence.wide (n - 1) Try.prog l (encI x) W fun e W' =>
      (e = .returned (.bool true) ∧ J (pre ++ [x]) W' ∧ KeepB (KS b gl gr gf Ba) W W') ∨ (e = .returned (.bool false) ∧ Jx (pre ++ [x]) W'))
    (W : World) (hBa : W.cell? ⟨Ba, 0, none⟩ = some (.pointer (some ⟨b, 0, none⟩))) (hBr : W.cell? ⟨Br, 0, none⟩ = some (.int .i64 q)) (hL : Lay W b gl gr gf nr room R V) (h0 : J [] W) :
    CallsIn Fence.wide n Try.prog 138 #[.func (.yield l) #[] #[], .pointer (some ⟨Ba, 0, none⟩), .pointer (some ⟨Br, 0, none⟩)] W fun e W' => (∃ v, e = .returned v) ∧
      ((∃ ys, ys = L.map (fun n => (n, V n)) ∧ J ys W') ∨ (∃ pre, pre <+: L.map (fun n => (n, V n)) ∧ Jx pre W')) := by
  have HF := Lib.hid (callsIn_wide (n := n - 1).2 (hfirst W hL))
  refine callsIn_of_wp Try.func138 rfl trivial ?_ rfl
  simp only [Try.ntmps138, List.size_toArray, List.length_cons, List.length_nil, Nat.reduceAdd, Nat.reduceSub, Array.replicate_succ, Array.replicate_zero, List.push_toArray, List.append_toArray, List.nil_append, List.cons_append]
  gi_wp2_with (refine ⟨trivial, ?_⟩; gi_at_call 139; refine HF.out.mono ?_; rintro e w' ⟨rfl, rfl⟩)
  clear HF hfirst
  gi_loopw [4] (fun p wr => ∃ (l1 l2 : List Nat), L = l1 ++ l2 ∧ p = .int .i64 (hdI l2) ∧ J (l1.map fun n => (n, V n)) wr ∧ KeepB (KS b gl gr gf Ba) W wr)
    (fun p wr => leftN L (intOf p))
  case atStart => exact ⟨[], L, rfl, rfl, h0, KeepB.refl _ _⟩
  case round =>
    obtain ⟨l1, l2, hs, rfl, hJs, hk⟩ := hrel
    cases l2 with
    | nil =>
      have e : hdI ([] : List Nat) = -1 := rfl
      rw [e]
      gi_wp2
      go_end0
      exact ⟨⟨_, rfl⟩, .inl ⟨_, rfl, by rw [hs, List.append_nil]; exact hJs⟩⟩
    | cons x t =>
      have e : hdI (x :: t) = (x : Int) := rfl
      rw [e]
      have e1 : ((x : Int) != -1) = true := by simp
      obtain ⟨fn, tmps, assign, body, hy, hR⟩ := hY _ (x, V x) wr hJs (by rw [hs]; simp)
      unfold encI at hy
      dsimp only at hy
      have hLw := hL.keepB hk (fun i hi => .inl hi)
      have hba := (World.cell?_of_block (a := ⟨Ba, 0, none⟩) (hk Ba (.inr rfl))).trans hBa
      have hLH := Lib.hid hLw
      obtain ⟨r, hr, hRr⟩ : ∃ r, r < nr ∧ R r = l1 ++ x :: t := by
        rcases hLr with h1 | ⟨r, h1, h2⟩
        · rw [hs] at h1; simp at h1
        · exact ⟨r, h1, h2.trans hs⟩
      obtain ⟨A, hA, hRA, rfl, rfl, rfl, rfl, rfl, ht⟩ := hLw
      have hxr := hRA.lt r hr x (by rw [hRr]; simp)
      have hsm := hA.small.1
      have c0 := hA.c0.cell
      have t00 := (hA.l0 x hxr 0 (.int .i64 (V x).i) (by rw [ht x hxr]; rfl)).cell
      have t01 := (hA.l0 x hxr 1 (.int .i64 (V x).c) (by rw [ht x hxr]; rfl)).cell
      have t02 := (hA.l0 x hxr 2 (.int .u8 (V x).s) (by rw [ht x hxr]; rfl)).cell
      have t03 := (hA.l0 x hxr 3 (.int .i64 (V x).p) (by rw [ht x hxr]; rfl)).cell
      have t04 := (hA.l0 x hxr 4 (.int .i64 (V x).q) (by rw [ht x hxr]; rfl)).cell
      rw [Nat.add_zero] at t00
      have t3 := (hA.l3 x hxr).cell
      rw [(hRA.lk r hr l1 x t hRr).2] at t3
      have HC0 := Lib.hid c0
      have HT3 := Lib.hid t3
      have HBA := Lib.hid hba
      have HS := Lib.hid hs
      clear hA hRA ht t3 hs hRr e hLr hr
      gi_wp2
      refine hR.mono ?_
      rintro e W3 (⟨rfl, hJ3, hk3⟩ | ⟨rfl, hJx3⟩)
      · have hba3 := (World.cell?_of_block (a := ⟨Ba, 0, none⟩) (hk3 Ba (.inr rfl))).trans HBA.out
        have c3 := (World.cell?_of_block (a := ⟨b, 0, none⟩) (hk3 b (.inl (.inl rfl)))).trans HC0.out
        have f3 := (World.cell?_of_block (a := ⟨A.gl, x * 8 + 7, none⟩) (hk3 A.gl (.inl (.inr (.inl rfl))))).trans HT3.out
        have htop : ∃ top, top = hdI t := ⟨_, rfl⟩
        obtain ⟨top, htop⟩ := htop
        rw [← htop] at f3
        have HT := Lib.hid htop
        clear htop hba c0 t00 t01 t02 t03 t04
        gi_wp2
        go_roundw
        case rel => exact ⟨l1 ++ [x], t, by rw [HS.out]; simp, by rw [HT.out], by rw [List.map_append]; exact hJ3, hk.trans hk3⟩
        case measure =>
          have h1 := leftN_eq (l1 := l1) (l2 := x :: t) HS.out hnd
          have h2 := leftN_eq (L := L) (l1 := l1 ++ [x]) (l2 := t) (by rw [HS.out]; simp) hnd
          simp only [hdI] at h1
          simp only [intOf, HT.out, h1, h2, List.length_cons]
          omega
      · gi_wp2
        refine bodyPost_ret (results_none rfl _ _ _) rfl ?_
        exact ⟨⟨_, rfl⟩, .inr ⟨_, ⟨t.map fun n => (n, V n), by rw [HS.out]; simp⟩, hJx3⟩⟩

/-- All's value gives the row's numbers and things, in order. -/
theorem all_stops (n : Nat) (hn : 1 ≤ n) (w : World) (Ba Br b gl gr gf nr room : Nat) (R : Nat → List Nat) (V : Nat → OrdR) (q : Int) (L : List Nat) (hnd : L.Nodup) (hLr : L = [] ∨ ∃ r, r < nr ∧ R r = L)
    (hfirst : ∀ W, Lay W b gl gr gf nr room R V → Calls Try.prog 139 #[.pointer (some ⟨b, 0, none⟩), .int .i64 q] W fun e w' => e = .returned (.int .i64 (hdI L)) ∧ W = w')
    (hBa : w.cell? ⟨Ba, 0, none⟩ = some (.pointer (some ⟨b, 0, none⟩))) (hBr : w.cell? ⟨Br, 0, none⟩ = some (.int .i64 q)) (hL : Lay w b gl gr gf nr room R V) :
    SeqStopsK Fence.wide n Try.prog 138 #[.pointer (some ⟨Ba, 0, none⟩), .pointer (some ⟨Br, 0, none⟩)] encI (KeepB (KS b gl gr gf Ba)) (fun ys => ys = L.map fun n => (n, V n)) (fun pre => pre <+: L.map fun n => (n, V n)) L.length w := fun l J Jx W hW _ _ hY h0 => by
  have e1 := (hW.cell (p := ⟨Ba, 0, none⟩) (cell_lt hBa)).trans hBa
  have e2 := (hW.cell (p := ⟨Br, 0, none⟩) (cell_lt hBr)).trans hBr
  have e3 : Lay W b gl gr gf nr room R V := hL.keepB (S := Blk4 b gl gr gf) (fun i hi => hW.block i (hL.blk i hi)) (fun _ h => h)
  exact all1_in n hn l Ba Br b gl gr gf nr room R V q L hnd hLr hfirst J Jx hY W e1 e2 e3 h0

theorem s_all (w : World) (b : Nat) (q : Int) :
    Calls Try.prog 112 #[.pointer (some ⟨b, 0, none⟩), .int .i64 q] w fun e w' => e = .returned (.func (.func 138) #[] #[.pointer (some ⟨w.heap.size, 0, none⟩), .pointer (some ⟨w.heap.size + 1, 0, none⟩)]) ∧ w' = (w.alloc (.cells #[.pointer (some ⟨b, 0, none⟩)] 146)).alloc (.cells #[.int .i64 q] 3) := by
  go_enter Try.func112, Try.ntmps112
  go_wp2
  go_returns
  first | exact ⟨rfl, rfl⟩ | (simp; done)
end Od
end Go.Proofs.Ytilngakgofjmpaa
