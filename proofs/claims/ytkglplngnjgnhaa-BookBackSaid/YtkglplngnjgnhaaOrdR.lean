/- Slots, the plain side: rows of numbers, laid out by links; Push and Take keep them so. No condition. -/
import Derived.Test.YtkglplngnjgnhaaOrdQ
import Derived.Test.YtkglplngnjgnhaaOrd7
namespace Go.Proofs.Ytkglplngnjgnhaa
set_option linter.unusedVariables false
set_option linter.unusedSimpArgs false
namespace Od
open Go.RowKit

def hdI : List Nat → Int
  | [] => -1
  | n :: _ => n
def laI (l : List Nat) : Int := hdI l.reverse
theorem laI_nil : laI [] = -1 := rfl
theorem laI_snoc (l : List Nat) (n : Nat) : laI (l ++ [n]) = n := by simp [laI, hdI]
theorem laI_app (l : List Nat) {m : List Nat} (h : m ≠ []) : laI (l ++ m) = laI m := by
  unfold laI
  rw [List.reverse_append]
  cases e : m.reverse with
  | nil => exact absurd (by simpa using e) h
  | cons a t => simp [hdI]
theorem laI_cons (n : Nat) (l : List Nat) : laI (n :: l) = if l = [] then (n : Int) else laI l := by
  by_cases h : l = []
  · subst h; simp [laI, hdI]
  · rw [if_neg h, show n :: l = [n] ++ l from rfl, laI_app _ h]
theorem hdI_app {l : List Nat} (h : l ≠ []) (m : List Nat) : hdI (l ++ m) = hdI l := by cases l <;> simp_all [hdI]
theorem hdI_neg {l : List Nat} : hdI l = -1 ↔ l = [] := by
  cases l with
  | nil => simp [hdI]
  | cons a t => simp only [hdI]; exact ⟨fun h => by omega, fun h => by cases h⟩
theorem laI_neg {l : List Nat} : laI l = -1 ↔ l = [] := by unfold laI; rw [hdI_neg]; simp
theorem hdI_mem {l : List Nat} {n : Nat} (h : hdI l = (n : Int)) : n ∈ l := by
  cases l with
  | nil => exact absurd h (by simp only [hdI]; omega)
  | cons a t => simp only [hdI] at h; rw [show a = n by omega]; simp
theorem laI_mem {l : List Nat} {n : Nat} (h : laI l = (n : Int)) : n ∈ l := by simpa using hdI_mem h
theorem laI_split {l : List Nat} (h : l ≠ []) : ∃ (k : List Nat) (n : Nat), l = k ++ [n] ∧ laI l = n := by
  rcases List.eq_nil_or_concat l with h0 | ⟨k, n, e⟩
  · exact absurd h0 h
  · exact ⟨k, n, by simpa using e, by rw [show l = k ++ [n] by simpa using e]; exact laI_snoc k n⟩

structure Rep (A : Ar) (R : Nat → List Nat) : Prop where
  lt : ∀ r, r < A.nr → ∀ n ∈ R r, n < A.room
  ro : ∀ r, r < A.nr → ∀ n ∈ R r, A.ro n = r
  nd : ∀ r, r < A.nr → (R r).Nodup
  fr : ∀ n, n < A.room → A.ro n = -1 ∨ ∃ r, r < A.nr ∧ A.ro n = r ∧ n ∈ R r
  hd : ∀ r, r < A.nr → A.rf r = hdI (R r)
  la : ∀ r, r < A.nr → A.rl r = laI (R r)
  ln : ∀ r, r < A.nr → A.rn r = (R r).length
  lk : ∀ r, r < A.nr → ∀ l1 n l2, R r = l1 ++ n :: l2 → A.ah n = laI l1 ∧ A.fa n = hdI l2
  hp : IsHeap A.fr A.nf
  ho : Holds A.fr A.nf (fun x => ∃ n : Nat, n < A.room ∧ A.ro n = -1 ∧ x = n)
  nf : A.nf ≤ A.room

theorem Rep.other {A : Ar} {R : Nat → List Nat} (h : Rep A R) {r s n : Nat} (hr : r < A.nr) (hs : s < A.nr) (hn : n ∈ R r) (hm : n ∈ R s) : r = s := by
  have := h.ro r hr n hn
  have := h.ro s hs n hm
  omega

/-- The least free number. -/
theorem Rep.least {A : Ar} {R : Nat → List Nat} (h : Rep A R) (hn : 0 < A.nf) :
    ∃ n : Nat, A.fr 0 = n ∧ n < A.room ∧ A.ro n = -1 ∧ (∀ m, m < A.room → A.ro m = -1 → n ≤ m) ∧
      IsHeap A.least.fr (A.nf - 1) ∧ Holds A.least.fr (A.nf - 1) (fun x => ∃ m : Nat, m < A.room ∧ A.ro m = -1 ∧ x = m ∧ m ≠ n) := by
  obtain ⟨n, hnr, hro, hx⟩ := h.ho.mem 0 hn
  obtain ⟨e, he⟩ : ∃ e, A.nf = e + 1 := ⟨A.nf - 1, by omega⟩
  refine ⟨n, hx, hnr, hro, fun m hm hmo => ?_, ?_⟩
  · obtain ⟨i, hi, hi'⟩ := h.ho.all m ⟨m, hm, hmo, rfl⟩
    have := heap_min h.hp i hi
    omega
  · have inj0 := h.ho.inj
    have hh : Holds (upd A.fr 0 (A.fr e)) e (fun x => ∃ m : Nat, m < A.room ∧ A.ro m = -1 ∧ x = m ∧ m ≠ n) := by
      refine ⟨fun i hi => ?_, fun x hx' => ?_, fun i j hi hj eq => ?_⟩
      · by_cases h0 : i = 0
        · subst h0
          rw [upd_same]
          obtain ⟨m, h1, h2, h3⟩ := h.ho.mem e (by omega)
          exact ⟨m, h1, h2, h3, fun e1 => by have := inj0 e 0 (by omega) (by omega) (by rw [h3, hx, e1]); omega⟩
        · rw [upd_other h0]
          obtain ⟨m, h1, h2, h3⟩ := h.ho.mem i (by omega)
          exact ⟨m, h1, h2, h3, fun e1 => by have := inj0 i 0 (by omega) (by omega) (by rw [h3, hx, e1]); omega⟩
      · obtain ⟨m, h1, h2, h3, h4⟩ := hx'
        obtain ⟨i, hi, hi'⟩ := h.ho.all x ⟨m, h1, h2, h3⟩
        have hi0 : i ≠ 0 := fun e1 => by subst e1; omega
        by_cases h5 : i = e
        · exact ⟨0, by omega, by rw [upd_same, ← h5]; exact hi'⟩
        · exact ⟨i, by omega, by rw [upd_other hi0]; exact hi'⟩
      · by_cases h0 : i = 0 <;> by_cases h1 : j = 0
        · omega
        · subst h0; rw [upd_same, upd_other h1] at eq; have := inj0 e j (by omega) (by omega) eq; omega
        · subst h1; rw [upd_same, upd_other h0] at eq; have := inj0 i e (by omega) (by omega) eq; omega
        · rw [upd_other h0, upd_other h1] at eq; exact inj0 i j (by omega) (by omega) eq
    have hl : A.least.fr = siftDown (e + 1) (upd A.fr 0 (A.fr e)) 0 e := by unfold Ar.least; rw [he]; rfl
    rw [he, Nat.add_sub_cancel, hl]
    refine ⟨siftDown_heap _ _ _ _ (by omega) (by omega) hh.inj (fun j hj hje hjp => ?_) (fun h => by omega), siftDown_holds _ _ _ _ _ hh⟩
    rw [upd_other hjp, upd_other (by omega)]
    exact h.hp j hj (by omega)

theorem snoc_split {L l1 l2 : List Nat} {n m : Nat} (h : L ++ [n] = l1 ++ m :: l2) : (l2 = [] ∧ m = n ∧ l1 = L) ∨ ∃ k, l2 = k ++ [n] ∧ L = l1 ++ m :: k := by
  rcases List.eq_nil_or_concat l2 with h0 | ⟨k, x, e⟩
  · subst h0
    have := List.append_inj' h rfl
    simp at this
    exact .inl ⟨rfl, this.2.symm, this.1.symm⟩
  · rw [e, List.concat_eq_append, ← List.cons_append, ← List.append_assoc] at h
    have := List.append_inj' h rfl
    simp at this
    exact .inr ⟨k, by rw [e]; simp [this.2], by simpa using this.1⟩

theorem Rep.push {A : Ar} {R : Nat → List Nat} (h : Rep A R) {r n : Nat} (hr : r < A.nr) (hnf : 0 < A.nf) (hn : A.fr 0 = (n : Int)) (v : Value) : Rep (A.push r v) (upd R r (R r ++ [n])) := by
  obtain ⟨n', hn', hnr, hno, _, hheap, hholds⟩ := h.least hnf
  have : n' = n := by omega
  subst this
  have hnotin : ∀ s, s < A.nr → n' ∉ R s := fun s hs hm => by have := h.ro s hs n' hm; omega
  have hp : A.push r v = { A.least with
      th := upd A.th n' v, ro := upd A.ro n' r, ah := upd A.ah n' (A.rl r)
      fa := if A.rl r = -1 then upd A.fa n' (-1) else upd (upd A.fa n' (-1)) (A.rl r).toNat n'
      rf := if A.rl r = -1 then upd A.rf r n' else A.rf, rl := upd A.rl r n', rn := upd A.rn r (A.rn r + 1) } := by
    unfold Ar.push; rw [hn']; rfl
  have hla := h.la r hr
  refine ⟨?_, ?_, ?_, ?_, ?_, ?_, ?_, ?_, ?_, ?_, ?_⟩
  · intro s hs m hm
    by_cases e : s = r
    · subst e; rw [upd_same] at hm
      rcases List.mem_append.1 hm with h1 | h1
      · exact h.lt s hs m h1
      · rw [List.mem_singleton.1 h1]; exact hnr
    · rw [upd_other e] at hm; exact h.lt s hs m hm
  · intro s hs m hm
    rw [hp]
    by_cases e : s = r
    · subst e; rw [upd_same] at hm
      rcases List.mem_append.1 hm with h1 | h1
      · simp only; rw [upd_other (fun e : m = n' => hnotin s hs (e ▸ h1))]; exact h.ro s hs m h1
      · rw [List.mem_singleton.1 h1]; exact upd_same _ _ _
    · rw [upd_other e] at hm
      simp only; rw [upd_other (fun e : m = n' => hnotin s hs (e ▸ hm))]; exact h.ro s hs m hm
  · intro s hs
    by_cases e : s = r
    · subst e; rw [upd_same, List.nodup_append]
      exact ⟨h.nd s hs, by simp, fun a ha b hb => by rw [List.mem_singleton.1 hb]; exact fun e => hnotin s hs (e ▸ ha)⟩
    · rw [upd_other e]; exact h.nd s hs
  · intro m hm
    rw [hp]
    simp only
    by_cases e : m = n'
    · subst e; rw [upd_same]; exact .inr ⟨r, hr, rfl, by rw [upd_same]; simp⟩
    · rw [upd_other e]
      rcases h.fr m hm with h1 | ⟨s, hs, h1, h2⟩
      · exact .inl h1
      · refine .inr ⟨s, hs, h1, ?_⟩
        by_cases e2 : s = r
        · subst e2; rw [upd_same]; simp [h2]
        · rw [upd_other e2]; exact h2
  · intro s hs
    rw [hp]
    simp only
    by_cases e : s = r
    · subst e
      rw [upd_same, hla]
      by_cases e2 : R s = []
      · rw [e2, if_pos (by rfl), upd_same]; rfl
      · rw [if_neg (fun h => e2 (laI_neg.1 h)), hdI_app e2]; exact h.hd s hs
    · rw [upd_other e]
      split
      · rw [upd_other e]; exact h.hd s hs
      · exact h.hd s hs
  · intro s hs
    rw [hp]
    simp only
    by_cases e : s = r
    · subst e; rw [upd_same, upd_same, laI_snoc]
    · rw [upd_other e, upd_other e]; exact h.la s hs
  · intro s hs
    rw [hp]
    simp only
    by_cases e : s = r
    · subst e; rw [upd_same, upd_same, h.ln s hs]; simp
    · rw [upd_other e, upd_other e]; exact h.ln s hs
  · intro s hs l1 m l2 hsp
    rw [hp]
    simp only
    by_cases e : s = r
    · subst e
      rw [upd_same] at hsp
      rcases snoc_split hsp with ⟨rfl, rfl, rfl⟩ | ⟨k, rfl, hL⟩
      · rw [upd_same]
        refine ⟨hla, ?_⟩
        split
        · rw [upd_same]; rfl
        · rename_i hne
          obtain ⟨k, x, hk, hx⟩ := laI_split (l := R s) (fun e => hne (by rw [hla, e]; rfl))
          rw [hla, hx, Int.toNat_natCast, upd_other, upd_same]
          · rfl
          · intro e; exact hnotin s hs (by rw [hk, ← e]; simp)
      · have hmn : m ≠ n' := fun e => hnotin s hs (by rw [hL, e]; simp)
        obtain ⟨g1, g2⟩ := h.lk s hs l1 m k hL
        rw [upd_other hmn]
        refine ⟨g1, ?_⟩
        have hne : R s ≠ [] := by rw [hL]; simp
        rw [if_neg (fun e => hne (laI_neg.1 (hla ▸ e)))]
        by_cases hk : k = []
        · subst hk
          have : laI (R s) = m := by rw [hL]; exact laI_snoc l1 m
          rw [hla, this, Int.toNat_natCast, upd_same]
          rfl
        · have hmx : m ≠ (A.rl s).toNat := by
            obtain ⟨k', x, hk', hx⟩ := laI_split hk
            have e1 : laI (R s) = x := by rw [hL, show l1 ++ m :: k = (l1 ++ [m]) ++ k by simp, laI_app _ hk, hx]
            rw [hla, e1, Int.toNat_natCast]
            intro e2
            have := h.nd s hs
            rw [hL, hk', ← e2] at this
            simp [List.nodup_append] at this
          rw [upd_other hmx, upd_other hmn, hdI_app hk]
          exact g2
    · rw [upd_other e] at hsp
      have hm : m ∈ R s := by rw [hsp]; simp
      have hmn : m ≠ n' := fun e => hnotin s hs (e ▸ hm)
      obtain ⟨g1, g2⟩ := h.lk s hs l1 m l2 hsp
      rw [upd_other hmn]
      refine ⟨g1, ?_⟩
      split
      · rw [upd_other hmn]; exact g2
      · rename_i hne
        obtain ⟨k, x, hk, hx⟩ := laI_split (l := R r) (fun e => hne (by rw [hla, e]; rfl))
        rw [hla, hx, Int.toNat_natCast, upd_other, upd_other hmn]
        · exact g2
        · intro e2
          exact e (h.other hs hr hm (by rw [hk, e2]; simp))
  · rw [hp]; exact hheap
  · rw [hp]
    refine ⟨fun i hi => ?_, fun x hx => ?_, hholds.inj⟩
    · obtain ⟨m, h1, h2, h3, h4⟩ := hholds.mem i hi
      exact ⟨m, h1, by simp only; rw [upd_other h4]; exact h2, h3⟩
    · obtain ⟨m, h1, h2, h3⟩ := hx
      simp only at h2
      by_cases e : m = n'
      · subst e; rw [upd_same] at h2; omega
      · rw [upd_other e] at h2
        exact hholds.all x ⟨m, h1, h2, h3, e⟩
  · rw [hp]
    have := h.nf
    show A.nf - 1 ≤ A.room
    omega
end Od
end Go.Proofs.Ytkglplngnjgnhaa
