/- PlanKinds: what the five kinds do, beside each other; SameHits at lists of different length; a plan's box behind an entry's. No condition. -/
import Derived.Test.YtilngakgofjmpaaPls
namespace Go.Proofs.Ytilngakgofjmpaa
set_option linter.unusedVariables false
set_option linter.unusedSimpArgs false
open Go.RowKit Go.Shelf
open Od (OrdR)

theorem fitC_some {most room : Nat} {l : Bool → List OrdR} {s p : Int} {out : OrdR} {g : Nat} (hs : s = 1 ∨ s = 2) (hp : 1 ≤ p ∧ p ≤ 1000000000) : fitC most room l s p out g = 0 ∨ fitC most room l s p out g = 60 ∨ fitC most room l s p out g = 61 := by
  have hroom : ∀ (D : List LvR) (L : List LvR) (r : Int), roomF most D out p L r = 0 ∨ roomF most D out p L r = 60 ∨ roomF most D out p L r = 61 := by
    intro D L
    induction L with
    | nil => intro r; unfold roomF; split <;> simp
    | cons d t ih =>
      intro r
      unfold roomF
      split
      · exact ih _
      · split
        · exact .inl rfl
        · exact ih _
  unfold fitC
  split
  · unfold fitS
    rw [if_pos (by rcases hs with rfl | rfl <;> rfl)]
    unfold fitsE
    rw [if_neg (fun h => h hp)]
    split
    · exact .inr (.inl rfl)
    · split
      · exact .inl rfl
      · split
        · exact .inr (.inr rfl)
        · exact .inl rfl
  · exact hroom _ _ _
section
variable {most room : Nat} {l : Bool → List OrdR} {c s p q : Int}
theorem kind_now {k p' : Int} (hk : k = 3 ∨ k = 2) (hm : mayE ⟨c, k, s, p', q⟩ = true) : planC most room l ⟨c, k, s, p', q⟩ = ⟨0, meet c q (facO l s p'), q - leftM c q (facO l s p'), 0, leftM c q (facO l s p')⟩ := by
  unfold planC
  rw [if_pos hm]
  unfold planR
  simp only
  rw [if_neg (fun h => by omega), if_neg (fun h => by omega), if_neg (by omega)]
theorem kind_not {e : EnR} (hm : mayE e = false) : planC most room l e = noPlan 1 := by
  unfold planC
  rw [if_neg (by rw [hm]; decide)]
theorem kind_may {k k' : Int} (hm : mayE ⟨c, k, s, p, q⟩ = true) (hk : k ≠ 2) (hk' : 1 ≤ k' ∧ k' ≤ 5 ∧ k' ≠ 2) : mayE ⟨c, k', s, p, q⟩ = true := by
  obtain ⟨h1, h2, h3⟩ := mayE_parts hm
  simp only at h1 h2 h3
  rw [if_neg hk] at h2
  unfold mayE
  refine decide_eq_true ⟨⟨hk'.1, hk'.2.1⟩, ?_, h3⟩
  show if k' = 2 then p = 0 else 1 ≤ p ∧ p ≤ 1000000000
  rw [if_neg hk'.2.2]
  exact h2
theorem kind_market {k : Int} (hm : mayE ⟨c, k, s, p, q⟩ = true) : mayE ⟨c, 2, s, 0, q⟩ = true := by
  obtain ⟨h1, h2, h3⟩ := mayE_parts hm
  simp only at h1 h2 h3
  unfold mayE
  exact decide_eq_true ⟨⟨(by decide : (1 : Int) ≤ 2), (by decide : (2 : Int) ≤ 5)⟩, rfl, h3⟩
/-- An All entry. -/
theorem kind_all (g : Good most room l) (hm : mayE ⟨c, 4, s, p, q⟩ = true) : ∃ e4 M4 t4 g4, planC most room l ⟨c, 4, s, p, q⟩ = ⟨e4, M4, t4, 0, g4⟩ ∧
    ((e4 = 0 ∧ t4 = q - leftM c q (facO l s p) ∧ leftM c q (facO l s p) = 0) ∨ (e4 = 81 ∧ 0 < leftM c q (facO l s p))) ∧ M4.length ≤ (facO l s p).length := by
  have hq : 1 ≤ q ∧ q ≤ 1000000000 := (mayE_parts hm).2.2.2.2
  have hok : ∀ x ∈ facO l s p, 1 ≤ x.q := fun x hx => by
    obtain ⟨q, hq⟩ := facO_mem hx
    exact (g.ok q x hq).2.2.2.2.2.2.1
  have hlf := leftM_lots (c := c) (left := q) (by omega) hok
  unfold planC
  rw [if_pos hm]
  unfold planR
  simp only
  rw [if_neg (fun h => by omega)]
  by_cases h4 : lotsO c (facO l s p) < q
  · rw [if_pos ⟨trivial, h4⟩]
    exact ⟨81, [], 0, 0, rfl, .inr ⟨rfl, by omega⟩, Nat.zero_le _⟩
  · rw [if_neg (fun h => h4 h.2), if_neg (by omega)]
    exact ⟨0, _, _, _, rfl, .inl ⟨rfl, rfl, by omega⟩, meet_len _ _ _⟩
/-- A Post entry. -/
theorem kind_post (hm : mayE ⟨c, 5, s, p, q⟩ = true) : ∃ e5 M5 t5 r5, planC most room l ⟨c, 5, s, p, q⟩ = ⟨e5, M5, t5, r5, 0⟩ ∧ M5 = [] ∧
    ((e5 = 80 ∧ facO l s p ≠ []) ∨ (e5 ≠ 80 ∧ facO l s p = [])) := by
  have hpp := (mayE_parts hm).2.1
  have hss := (mayE_parts hm).2.2.1
  simp only at hpp hss
  rw [if_neg (by decide)] at hpp
  unfold planC
  rw [if_pos hm]
  unfold planR
  simp only
  by_cases h5 : facO l s p = []
  · rw [if_neg (fun h => h.2 h5), if_neg (fun h => by omega), if_pos (.inr trivial), h5]
    split
    · rename_i hf
      have := fitC_some (most := most) (room := room) (l := l) (out := zOrd) (g := goneM c q []) hss hpp
      exact ⟨_, [], 0, 0, rfl, rfl, .inr ⟨by omega, rfl⟩⟩
    · exact ⟨0, _, _, _, rfl, rfl, .inr ⟨by decide, rfl⟩⟩
  · rw [if_pos ⟨trivial, h5⟩]
    exact ⟨80, [], 0, 0, rfl, rfl, .inl ⟨rfl, h5⟩⟩
/-- A Limit entry. -/
theorem kind_limit (hm : mayE ⟨c, 1, s, p, q⟩ = true) : ∃ e1 M1 t1 r1, planC most room l ⟨c, 1, s, p, q⟩ = ⟨e1, M1, t1, r1, 0⟩ ∧
    ((e1 ≠ 0 ∧ (e1 = 60 ∨ e1 = 61) ∧ M1 = []) ∨ (e1 = 0 ∧ M1 = meet c q (facO l s p) ∧ r1 = leftM c q (facO l s p))) := by
  have hpp := (mayE_parts hm).2.1
  have hss := (mayE_parts hm).2.2.1
  simp only at hpp hss
  rw [if_neg (by decide)] at hpp
  unfold planC
  rw [if_pos hm]
  unfold planR
  simp only
  rw [if_neg (fun h => by omega), if_neg (fun h => by omega), if_pos (.inl trivial)]
  split
  · rename_i hf
    have := fitC_some (most := most) (room := room) (l := l) (out := zOrd) (g := goneM c q (facO l s p)) hss hpp
    exact ⟨_, [], 0, 0, rfl, .inl ⟨hf.2, by omega, rfl⟩⟩
  · exact ⟨0, _, _, _, rfl, .inr ⟨rfl, rfl, rfl⟩⟩
/-- Without a limit: whom it meets besides. -/
theorem facO_none (g : Good most room l) {lim : Int} (hs : s = 1 ∨ s = 2) : ∃ D, facO l s 0 = facO l s lim ++ D := by
  rcases hs with rfl | rfl
  · obtain ⟨D, hD⟩ := facL_wider (sg := 1) (lim := lim) (lim' := 0) (g.srt true) (.inl rfl)
    exact ⟨D, by unfold facO; rw [if_pos rfl, if_pos rfl]; exact hD⟩
  · obtain ⟨D, hD⟩ := facL_wider (sg := -1) (lim := lim) (lim' := 0) (g.srt false) (.inl rfl)
    exact ⟨D, by unfold facO; rw [if_neg (by decide), if_pos rfl, if_neg (by decide), if_pos rfl]; exact hD⟩
/-- A Market entry beside a Now one. -/
theorem kind_more (g : Good most room l) {k : Int} (hm : mayE ⟨c, k, s, p, q⟩ = true) : ∃ M2 t2 g2, planC most room l ⟨c, 2, s, 0, q⟩ = ⟨0, M2, t2, 0, g2⟩ ∧ q - leftM c q (facO l s p) ≤ t2 ∧
    (meet c q (facO l s p)).length ≤ M2.length ∧ M2.length ≤ 256 ∧ ∀ (j : Nat) (a : HitR), (meet c q (facO l s p))[j]? = some a → M2[j]? = some a := by
  have hq : 1 ≤ q ∧ q ≤ 1000000000 := (mayE_parts hm).2.2.2.2
  have hss := (mayE_parts hm).2.2.1
  simp only at hss
  have hok : ∀ lim, ∀ x ∈ facO l s lim, 1 ≤ x.q := fun lim x hx => by
    obtain ⟨q, hq⟩ := facO_mem hx
    exact (g.ok q x hq).2.2.2.2.2.2.1
  obtain ⟨D, hD⟩ := facO_none (lim := p) g hss
  have h0 := hok 0
  have hl := facO_len l s 0
  have h2 := g.len
  have h3 := g.small.1
  have h4 := meet_len c (facO l s 0) q
  refine ⟨_, _, _, kind_now (.inr rfl) (kind_market hm), ?_, ?_, by omega, ?_⟩
  · rw [hD] at h0 ⊢
    exact traded_more (by omega) (Int.le_refl _) h0
  · rw [hD]; exact (meet_longer c q _ D).1
  · rw [hD]; exact (meet_longer c q _ D).2
end

/-- A plan's box behind an entry's. -/
structure PB (N b : Nat) (a : Option Addr) (m c : Nat) (M : List HitR) (t r g : Int) (A : World) : Prop where
  lt : N < b
  len : m = M.length
  box : ∃ base er, N < base ∧ BoxP b base (.slice a m c) ⟨er, M, t, r, g⟩ A
theorem PB.step {N b m c : Nat} {a : Option Addr} {M : List HitR} {t r g : Int} {A C : World} (h : PB N b a m c M t r g A) {S : Nat → Prop} (o : Only S A C) (hS : ∀ i, N < i → ¬ S i) : PB N b a m c M t r g C := by
  obtain ⟨hlt, hl, base, er, hb, hx⟩ := h
  have hne : ¬ S b := hS b hlt
  exact ⟨hlt, hl, base, er, hb, hx.c0.only o hne, hx.c1.only o hne, hx.c2.only o hne, hx.c3.only o hne, ownsRow_apart hx.own o (fun i hi => hS i (by have := (hx.own.lt i hi).1; omega))⟩
theorem PB.c0 {N b m c : Nat} {a : Option Addr} {M : List HitR} {t r g : Int} {A : World} (h : PB N b a m c M t r g A) : Cell A b 0 (.slice a m c) := h.box.elim fun _ h => h.elim fun _ h => h.2.c0
theorem PB.c1 {N b m c : Nat} {a : Option Addr} {M : List HitR} {t r g : Int} {A : World} (h : PB N b a m c M t r g A) : Cell A b 1 (.int .i64 t) := h.box.elim fun _ h => h.elim fun _ h => h.2.c1
theorem PB.c2 {N b m c : Nat} {a : Option Addr} {M : List HitR} {t r g : Int} {A : World} (h : PB N b a m c M t r g A) : Cell A b 2 (.int .i64 r) := h.box.elim fun _ h => h.elim fun _ h => h.2.c2
theorem PB.c3 {N b m c : Nat} {a : Option Addr} {M : List HitR} {t r g : Int} {A : World} (h : PB N b a m c M t r g A) : Cell A b 3 (.int .i64 g) := h.box.elim fun _ h => h.elim fun _ h => h.2.c3
theorem PB.hits {N b m c : Nat} {a : Option Addr} {M : List HitR} {t r g : Int} {A : World} (h : PB N b a m c M t r g A) : HitAt A a M := by
  obtain ⟨_, hl, base, er, hb, hx⟩ := h
  refine HitAt.of_slice (cap := c) (base := base) (e := 117) ?_
  rw [← hl]
  have := hx.own
  rw [show (PlanR.mk er M t r g).hits.length = m from hl.symm] at this
  exact this
theorem PB.new {N m c : Nat} {base : Nat} {a : Option Addr} {M : List HitR} {t r g : Int} {w : World} (h : w.ownsRow base 117 4 (.slice a m c) m (hitC M)) (hm : m = M.length) (hb : N < base) (hw : base ≤ w.heap.size) : PB N w.heap.size a m c M t r g (w.alloc (.cells #[.slice a m c, .int .i64 t, .int .i64 r, .int .i64 g] 104)) := by
  subst hm
  exact ⟨by omega, rfl, base, 0, hb, BoxP.new (P := ⟨0, M, t, r, g⟩) h⟩

set_option maxRecDepth 100000 in
set_option maxHeartbeats 4000000 in
theorem k_sameH_not (w : World) (va vb : Option Addr) (na nb ca cb : Nat) (h : na ≠ nb) :
    Calls Try.prog 54 #[.slice va na ca, .slice vb nb cb] w fun e w' => e = .returned (.bool false) ∧ Only (fun _ => False) w w' := by
  have hne : ((na : Int) != (nb : Int)) = true := by simp; omega
  clear h
  go_enter Try.func54, Try.ntmps54
  go_wp2_with fail
  go_returns
  exact ⟨rfl, Only.refl _ _⟩
/-- SameHits of any two lists of which one is empty, or that are alike. -/
theorem k_sameH_kinds (w : World) (M1 M : List HitR) (va vb : Option Addr) (ca cb : Nat) (hl : M.length ≤ 100000000) (h1 : M1 = [] ∨ M1 = M) (ha : HitAt w va M1) (hb : HitAt w vb M) :
    Calls Try.prog 54 #[.slice va M1.length ca, .slice vb M.length cb] w fun e w' => ∃ x, e = .returned (.bool x) ∧ (M1 = M → x = true) ∧ Only (fun _ => False) w w' := by
  by_cases he : M1 = M
  · subst he
    exact (k_sameH w M1 va vb ca cb hl ha hb).mono fun e w' ⟨h1, h2⟩ => ⟨true, h1, fun _ => rfl, h2⟩
  · have h0 : M1 = [] := h1.resolve_right he
    refine (k_sameH_not w va vb M1.length M.length ca cb (fun h => he ?_)).mono fun e w' ⟨h1, h2⟩ => ⟨false, h1, fun h => absurd h he, h2⟩
    rw [h0] at h ⊢
    exact (List.length_eq_zero_iff.1 h.symm).symm
end Go.Proofs.Ytilngakgofjmpaa
