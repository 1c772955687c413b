/- Slots, the plain side: Take keeps the rows laid out. No condition. -/
import Derived.Test.YtkglplngnjgnhaaOrdR
import Derived.Test.YtkglplngnjgnhaaOrd8
namespace Go.Proofs.Ytkglplngnjgnhaa
set_option linter.unusedVariables false
set_option linter.unusedSimpArgs false
namespace Od
open Go.RowKit

theorem nodup_len : ∀ (n : Nat) (l : List Nat), l.Nodup → (∀ x ∈ l, x < n) → l.length ≤ n := by
  intro n
  induction n with
  | zero =>
    intro l _ h
    cases l with
    | nil => simp
    | cons a t => have := h a (by simp); omega
  | succ n ih =>
    intro l hn h
    by_cases hm : n ∈ l
    · have := ih (l.erase n) (hn.erase n) (fun x hx => by
        have h1 := (hn.mem_erase_iff).1 hx
        have := h x h1.2
        have := h1.1
        omega)
      rw [List.length_erase_of_mem hm] at this
      omega
    · have := ih l hn (fun x hx => by
        have := h x hx
        have : x ≠ n := fun e => hm (e ▸ hx)
        omega)
      omega

theorem Rep.len {A : Ar} {R : Nat → List Nat} (h : Rep A R) {r : Nat} (hr : r < A.nr) : (R r).length ≤ A.room := nodup_len _ _ (h.nd r hr) (h.lt r hr)

theorem app_split {l1 l2 k1 k2 : List Nat} {m : Nat} (h : l1 ++ l2 = k1 ++ m :: k2) : (∃ us, k1 = l1 ++ us ∧ l2 = us ++ m :: k2) ∨ ∃ bs, l1 = k1 ++ m :: bs ∧ k2 = bs ++ l2 := by
  rcases List.append_eq_append_iff.1 h with ⟨us, h1, h2⟩ | ⟨bs, h1, h2⟩
  · exact .inl ⟨us, h1, h2⟩
  · cases bs with
    | nil => exact .inl ⟨[], by simpa using h1.symm, by simpa using h2.symm⟩
    | cons b t =>
      simp at h2
      exact .inr ⟨t, by rw [h1, h2.1], h2.2⟩

theorem Rep.take {A : Ar} {R : Nat → List Nat} (h : Rep A R) {r n : Nat} (hr : r < A.nr) {l1 l2 : List Nat} (hs : R r = l1 ++ n :: l2) (hnf : A.nf < A.room) (z : Value) :
    Rep (A.take n z) (upd R r (l1 ++ l2)) := by
  have hnm : n ∈ R r := by rw [hs]; simp
  have hro := h.ro r hr n hnm
  have hnr := h.lt r hr n hnm
  obtain ⟨ha, hf⟩ := h.lk r hr l1 n l2 hs
  have hnd := h.nd r hr
  rw [hs] at hnd
  have hnd2 := List.nodup_append.1 hnd
  have n1 : n ∉ l1 := fun hm => hnd2.2.2 n hm n (by simp) rfl
  have n2 : n ∉ l2 := (List.nodup_cons.1 hnd2.2.1).1
  have d12 : ∀ x, x ∈ l1 → x ∈ l2 → False := fun x a b => hnd2.2.2 x a x (by simp [b]) rfl
  have hsub : ∀ m, m ∈ l1 ++ l2 → m ∈ R r ∧ m ≠ n := fun m hm => by
    rw [hs]
    rcases List.mem_append.1 hm with h1 | h1
    · exact ⟨by simp [h1], fun e => n1 (e ▸ h1)⟩
    · exact ⟨by simp [h1], fun e => n2 (e ▸ h1)⟩
  have hoth : ∀ s, s < A.nr → s ≠ r → ∀ m ∈ R s, m ≠ n := fun s hsr e m hm e2 => e (h.other hsr hr hm (e2 ▸ hnm))
  obtain ⟨F, hF⟩ : ∃ F, F = siftUp (A.nf + 1) (upd A.fr A.nf n) A.nf := ⟨_, rfl⟩
  have hp : A.take n z = { A with
      nf := A.nf + 1, fr := F, th := upd A.th n z, ro := upd A.ro n (-1)
      rf := if A.ah n = -1 then upd A.rf r (A.fa n) else A.rf
      fa := upd (if A.ah n = -1 then A.fa else upd A.fa (A.ah n).toNat (A.fa n)) n 0
      rl := if A.fa n = -1 then upd A.rl r (A.ah n) else A.rl
      ah := upd (if A.fa n = -1 then A.ah else upd A.ah (A.fa n).toNat (A.ah n)) n 0
      rn := upd A.rn r (A.rn r - 1) } := by
    unfold Ar.take Ar.cut Ar.wipe Ar.give; rw [hro, hF]; simp only [Int.toNat_natCast]
  refine ⟨?_, ?_, ?_, ?_, ?_, ?_, ?_, ?_, ?_, ?_, ?_⟩
  · intro s hsr m hm
    rw [hp]
    by_cases e : s = r
    · subst e; rw [upd_same] at hm; exact h.lt s hr m (hsub m hm).1
    · rw [upd_other e] at hm; exact h.lt s hsr m hm
  · intro s hsr m hm
    rw [hp]
    simp only
    by_cases e : s = r
    · subst e; rw [upd_same] at hm; rw [upd_other (hsub m hm).2]; exact h.ro s hr m (hsub m hm).1
    · rw [upd_other e] at hm; rw [upd_other (hoth s hsr e m hm)]; exact h.ro s hsr m hm
  · intro s hsr
    by_cases e : s = r
    · subst e; rw [upd_same, List.nodup_append]
      exact ⟨hnd2.1, (List.nodup_cons.1 hnd2.2.1).2, fun a ha' b hb e => d12 a ha' (e ▸ hb)⟩
    · rw [upd_other e]; exact h.nd s hsr
  · intro m hm
    rw [hp]
    simp only
    by_cases e : m = n
    · subst e; exact .inl (upd_same _ _ _)
    · rw [upd_other e]
      rcases h.fr m hm with h1 | ⟨s, hsr, h1, h2⟩
      · exact .inl h1
      · refine .inr ⟨s, hsr, h1, ?_⟩
        by_cases e2 : s = r
        · subst e2; rw [upd_same]; rw [hs] at h2; simp at h2 ⊢; rcases h2 with h2 | h2 | h2
          · exact .inl h2
          · exact absurd h2 e
          · exact .inr h2
        · rw [upd_other e2]; exact h2
  · intro s hsr
    rw [hp]
    simp only
    by_cases e : s = r
    · subst e
      rw [upd_same, ha]
      by_cases e2 : l1 = []
      · subst e2; rw [if_pos (by rfl), upd_same]; exact hf
      · rw [if_neg (fun h => e2 (laI_neg.1 h)), h.hd s hr, hs, hdI_app e2, hdI_app e2]
    · rw [upd_other e]
      split
      · rw [upd_other e]; exact h.hd s hsr
      · exact h.hd s hsr
  · intro s hsr
    rw [hp]
    simp only
    by_cases e : s = r
    · subst e
      rw [upd_same, hf]
      by_cases e2 : l2 = []
      · subst e2; rw [if_pos (by rfl), upd_same, List.append_nil]; exact ha
      · rw [if_neg (fun h => e2 (hdI_neg.1 h)), h.la s hr, hs, laI_app _ (by simp), laI_cons, if_neg e2, laI_app _ e2]
    · rw [upd_other e]
      split
      · rw [upd_other e]; exact h.la s hsr
      · exact h.la s hsr
  · intro s hsr
    rw [hp]
    simp only
    by_cases e : s = r
    · subst e; rw [upd_same, upd_same, h.ln s hr, hs]; simp; omega
    · rw [upd_other e, upd_other e]; exact h.ln s hsr
  · intro s hsr k1 m k2 hsp
    rw [hp]
    simp only
    by_cases e : s = r
    · subst e
      rw [upd_same] at hsp
      have hmm := hsub m (by rw [hsp]; simp)
      rw [upd_other hmm.2, upd_other hmm.2]
      rcases app_split hsp with ⟨us, rfl, rfl⟩ | ⟨bs, rfl, rfl⟩
      · obtain ⟨g1, g2⟩ := h.lk s hr (l1 ++ n :: us) m k2 (by rw [hs]; simp)
        have hml1 : m ∉ l1 := fun hm => d12 m hm (by simp)
        refine ⟨?_, ?_⟩
        · rw [hf]
          by_cases e2 : us = []
          · subst e2
            rw [if_neg (by simp only [List.nil_append, hdI]; omega)]
            simp only [List.nil_append, hdI, Int.toNat_natCast, List.append_nil]
            rw [upd_same]; exact ha
          · rw [if_neg (by cases us <;> simp_all [hdI] <;> omega), laI_app _ e2]
            rw [laI_app _ (by simp), laI_cons, if_neg e2] at g1
            rw [upd_other, g1]
            obtain ⟨a, t, rfl⟩ : ∃ a t, us = a :: t := by cases us with | nil => exact absurd rfl e2 | cons a t => exact ⟨a, t, rfl⟩
            simp only [List.cons_append, hdI, Int.toNat_natCast]
            intro e3
            have := (List.nodup_cons.1 hnd2.2.1).2
            rw [e3] at this; simp at this
        · split
          · exact g2
          · rename_i hne
            obtain ⟨k, x, hk, hx⟩ := laI_split (l := l1) (fun e => hne (by rw [ha, e]; rfl))
            rw [ha, hx, Int.toNat_natCast, upd_other]
            · exact g2
            · intro e3; exact hml1 (by rw [hk, e3]; simp)
      · obtain ⟨g1, g2⟩ := h.lk s hr k1 m (bs ++ n :: l2) (by rw [hs]; simp)
        have hml2 : m ∉ l2 := fun hm => d12 m (by simp) hm
        refine ⟨?_, ?_⟩
        · split
          · exact g1
          · rename_i hne
            have hl2 : l2 ≠ [] := fun e => hne (by rw [hf, e]; rfl)
            obtain ⟨a, t, rfl⟩ : ∃ a t, l2 = a :: t := by cases l2 with | nil => exact absurd rfl hl2 | cons a t => exact ⟨a, t, rfl⟩
            rw [hf]
            simp only [hdI, Int.toNat_natCast]
            rw [upd_other]
            · exact g1
            · intro e3; exact hml2 (by simp [e3])
        · rw [ha, laI_app _ (by simp), laI_cons]
          by_cases e2 : bs = []
          · subst e2
            rw [if_pos rfl, if_neg (by omega), Int.toNat_natCast, upd_same, hf]
            rfl
          · rw [if_neg e2, hdI_app e2]
            rw [hdI_app e2] at g2
            obtain ⟨k, x, hk, hx⟩ := laI_split e2
            rw [hx, if_neg (by omega), Int.toNat_natCast, upd_other]
            · exact g2
            · intro e3
              have := hnd2.1
              rw [hk, e3] at this; simp [List.nodup_append] at this
    · rw [upd_other e] at hsp
      have hm : m ∈ R s := by rw [hsp]; simp
      have hmn := hoth s hsr e m hm
      obtain ⟨g1, g2⟩ := h.lk s hsr k1 m k2 hsp
      have hmr : m ∉ R r := fun h' => e (h.other hsr hr hm h')
      rw [upd_other hmn, upd_other hmn]
      refine ⟨?_, ?_⟩
      · split
        · exact g1
        · rename_i hne
          have hl2 : l2 ≠ [] := fun e => hne (by rw [hf, e]; rfl)
          obtain ⟨a, t, rfl⟩ : ∃ a t, l2 = a :: t := by cases l2 with | nil => exact absurd rfl hl2 | cons a t => exact ⟨a, t, rfl⟩
          rw [hf]
          simp only [hdI, Int.toNat_natCast]
          rw [upd_other]
          · exact g1
          · intro e3; exact hmr (by rw [hs, e3]; simp)
      · split
        · exact g2
        · rename_i hne
          obtain ⟨k, x, hk, hx⟩ := laI_split (l := l1) (fun e => hne (by rw [ha, e]; rfl))
          rw [ha, hx, Int.toNat_natCast, upd_other]
          · exact g2
          · intro e3; exact hmr (by rw [hs, hk, e3]; simp)
  · rw [hp]
    simp only [hF]
    have inj0 : ∀ i j, i < A.nf + 1 → j < A.nf + 1 → upd A.fr A.nf n i = upd A.fr A.nf n j → i = j := by
      intro i j hi hj eq
      by_cases e1 : i = A.nf <;> by_cases e2 : j = A.nf
      · omega
      · rw [e1, upd_same, upd_other e2] at eq
        obtain ⟨m, _, h2, h3⟩ := h.ho.mem j (by omega)
        have : m = n := by omega
        subst this; omega
      · rw [e2, upd_same, upd_other e1] at eq
        obtain ⟨m, _, h2, h3⟩ := h.ho.mem i (by omega)
        have : m = n := by omega
        subst this; omega
      · rw [upd_other e1, upd_other e2] at eq; exact h.ho.inj i j (by omega) (by omega) eq
    refine siftUp_heap _ _ _ _ (by omega) (by omega) inj0 (fun j hj hjn hjk => ?_) (fun _ j hj hjn hjk => by omega)
    rw [upd_other hjk, upd_other (by omega)]
    exact h.hp j hj (by omega)
  · rw [hp]
    simp only [hF]
    refine siftUp_holds _ _ _ _ _ (by omega) ⟨fun i hi => ?_, fun x hx => ?_, fun i j hi hj eq => ?_⟩
    · by_cases e1 : i = A.nf
      · rw [e1, upd_same]; exact ⟨n, hnr, upd_same _ _ _, rfl⟩
      · rw [upd_other e1]
        obtain ⟨m, a1, a2, a3⟩ := h.ho.mem i (by omega)
        exact ⟨m, a1, by rw [upd_other (fun e => by subst e; omega)]; exact a2, a3⟩
    · obtain ⟨m, a1, a2, a3⟩ := hx
      by_cases e1 : m = n
      · exact ⟨A.nf, by omega, by rw [upd_same, a3, e1]⟩
      · rw [upd_other e1] at a2
        obtain ⟨i, hi, hi'⟩ := h.ho.all x ⟨m, a1, a2, a3⟩
        exact ⟨i, by omega, by rw [upd_other (by omega)]; exact hi'⟩
    · by_cases e1 : i = A.nf <;> by_cases e2 : j = A.nf
      · omega
      · rw [e1, upd_same, upd_other e2] at eq
        obtain ⟨m, _, h2, h3⟩ := h.ho.mem j (by omega)
        have : m = n := by omega
        subst this; omega
      · rw [e2, upd_same, upd_other e1] at eq
        obtain ⟨m, _, h2, h3⟩ := h.ho.mem i (by omega)
        have : m = n := by omega
        subst this; omega
      · rw [upd_other e1, upd_other e2] at eq; exact h.ho.inj i j (by omega) (by omega) eq
  · rw [hp]
    show A.nf + 1 ≤ A.room
    omega

/-- A new arena has no things. -/
theorem Rep.init (gl gr gf nr room : Nat) (z : Value) : Rep (Ar.init gl gr gf nr room z) (fun _ => []) := by
  refine ⟨fun _ _ _ h => by simp at h, fun _ _ _ h => by simp at h, fun _ _ => List.nodup_nil, fun _ _ => .inl rfl, fun _ _ => rfl, fun _ _ => rfl, fun _ _ => rfl, fun _ _ l1 n l2 h => by simp at h, fun i _ hi => ?_, ⟨fun i hi => ⟨i, hi, rfl, rfl⟩, fun x hx => ?_, fun i j _ _ e => ?_⟩, Nat.le_refl _⟩
  · simp only [Ar.init]; omega
  · obtain ⟨m, h1, _, h3⟩ := hx; exact ⟨m, h1, h3.symm⟩
  · simp only [Ar.init] at e; omega
/-- A thing that lies in a row leaves room. -/
theorem Rep.nf_lt {A : Ar} {R : Nat → List Nat} (h : Rep A R) {n : Nat} (hn : n < A.room) (ho : A.ro n ≠ -1) : A.nf < A.room := by
  have hnd : ((List.range A.nf).map fun i => (A.fr i).toNat).Nodup := by
    unfold List.Nodup
    rw [List.pairwise_map]
    refine List.Pairwise.imp_of_mem (fun {i j} hi hj hne e => ?_) (List.nodup_range (n := A.nf))
    have hi' : i < A.nf := by simpa using hi
    have hj' : j < A.nf := by simpa using hj
    obtain ⟨m, _, _, h3⟩ := h.ho.mem i hi'
    obtain ⟨m', _, _, h3'⟩ := h.ho.mem j hj'
    rw [h3, h3'] at e
    simp at e
    exact hne (h.ho.inj i j hi' hj' (by rw [h3, h3', e]))
  have hle2 := nodup_len A.room (n :: (List.range A.nf).map fun i => (A.fr i).toNat) (List.nodup_cons.2 ⟨fun hm => ?_, hnd⟩) (fun x hx => ?_)
  · simp at hle2; omega
  · obtain ⟨i, hi, e⟩ := List.mem_map.1 hm
    obtain ⟨m, h1, h2, h3⟩ := h.ho.mem i (by simpa using hi)
    rw [h3] at e
    simp at e
    exact ho (e ▸ h2)
  · rcases List.mem_cons.1 hx with h1 | h1
    · omega
    · obtain ⟨i, hi, e⟩ := List.mem_map.1 h1
      obtain ⟨m, h1, h2, h3⟩ := h.ho.mem i (by simpa using hi)
      rw [h3] at e; simp at e; omega
end Od
end Go.Proofs.Ytkglplngnjgnhaa
