/- SnapFeeds, the plain side: both tell the same feeds. Conditions: at most 33554431 events. -/
import Derived.Test.YtiiflgihjnlmcaaPSnapFeedsx6
import Derived.Test.YtiiflgihjnlmcaaPSnapFeedsx4
namespace Go.Proofs.Ytiiflgihjnlmcaa
set_option linter.unusedVariables false
set_option linter.unusedSimpArgs false
open Go.RowKit Go.Proofs.YtiiflgihjnlmcaaW.PrintWords Go.Proofs.YtiiflgihjnlmcaaW.PrintLast Go.Proofs.YtiiflgihjnlmcaaW.PrintMore Go.Proofs.Ytiiflgihjnlmcaa.PSnapFeeds

/-- May a quantity be an event's? -/
def szd (q : Int) : Bool := decide (0 ≤ q) && decide (q ≤ 1000000000)
theorem sized_eq (q : Int) : snap_sized.f q = some (szd q) := by
  unfold snap_sized.f szd
  by_cases h : q ≥ 0
  · rw [if_pos h]; simp [h]
  · rw [if_neg h]; have : decide (0 ≤ q) = false := by simp; omega
    rw [this]; rfl
/-- By how much an event changes what a client has open. -/
def chgV (w q v : Int) : Int := if w = 2 ∨ w = 3 ∨ w = 4 then wrap64 (-q) else if w = 6 then q else if w = 7 then wrap64 (-v) else if w = 8 then wrap64 (q - v) else 0
def chg (x0 x3 x4 x7 x8 c : Int) : Int := if (if x0 = 2 then x4 else x3) = c ∧ szd x7 = true ∧ szd x8 = true then chgV x0 x7 x8 else 0

theorem snap_j2 (k : Nat) (b : Bool) (x0 x1 x2 x3 x4 x5 x6 x7 x8 : Int) (hb : b = true ↔ x0 = 2 ∨ x0 = 3 ∨ x0 = 4) : snap_change.j2 (k + 1) x0 b x0 x1 x2 x3 x4 x5 x6 x7 x8 = some (chgV x0 x7 x8) := by
  simp only [snap_change.j2, chgV]
  by_cases h : b = true
  · rw [if_pos h, if_pos (hb.1 h)]
  · rw [if_neg h, if_neg (fun e => h (hb.2 e))]
    (repeat' split) <;> simp_all
theorem snap_j1 (k : Nat) (b : Bool) (x0 x1 x2 x3 x4 x5 x6 x7 x8 : Int) : snap_change.j1 (k + 2) b x0 x1 x2 x3 x4 x5 x6 x7 x8 = some (if b = true then 0 else chgV x0 x7 x8) := by
  simp only [snap_change.j1]
  by_cases h : b = true
  · rw [if_pos h, if_pos h]
  · rw [if_neg h, if_neg h]
    by_cases h2 : x0 = 2
    · rw [if_pos h2]; exact snap_j2 k _ x0 x1 x2 x3 x4 x5 x6 x7 x8 (by simp [h2])
    · rw [if_neg h2]
      by_cases h3 : x0 = 3
      · rw [if_pos h3]; exact snap_j2 k _ x0 x1 x2 x3 x4 x5 x6 x7 x8 (by simp [h3])
      · rw [if_neg h3]; exact snap_j2 k _ x0 x1 x2 x3 x4 x5 x6 x7 x8 (by simp [h2, h3])
theorem snap_j0 (k : Nat) (x0 x1 x2 x3 x4 x5 x6 x7 x8 z c : Int) : snap_change.j0 (k + 3) c z x0 x1 x2 x3 x4 x5 x6 x7 x8 = some (if z = c ∧ szd x7 = true ∧ szd x8 = true then chgV x0 x7 x8 else 0) := by
  simp only [snap_change.j0]
  by_cases h : z = c
  · rw [if_pos h, sized_eq, Option.bind_some]
    by_cases h7 : szd x7 = true
    · rw [if_pos h7, sized_eq, Option.bind_some, snap_j1]
      by_cases h8 : szd x8 = true
      · rw [if_pos (c := z = c ∧ szd x7 = true ∧ szd x8 = true) ⟨h, h7, h8⟩]; simp [h8]
      · rw [if_neg (c := z = c ∧ szd x7 = true ∧ szd x8 = true) (fun e => h8 e.2.2)]; simp [h8]
    · rw [if_neg h7, snap_j1, if_pos rfl, if_neg (fun e => h7 e.2.1)]
  · rw [if_neg h, snap_j1, if_pos rfl, if_neg (fun e => h e.1)]
theorem snap_chg (k : Nat) (x0 x1 x2 x3 x4 x5 x6 x7 x8 c : Int) : snap_change.f (k + 3) x0 x1 x2 x3 x4 x5 x6 x7 x8 c = some (chg x0 x3 x4 x7 x8 c) := by
  unfold snap_change.f chg
  by_cases h : x0 = 2
  · rw [if_pos h, if_pos h, snap_j0]
  · rw [if_neg h, if_neg h, snap_j0]

theorem ref_c3 (k : Nat) (b : Bool) (x0 x1 x2 x3 x4 x5 x6 x7 x8 : Int) (hb : b = true ↔ x0 = 3 ∨ x0 = 4) (h2 : x0 ≠ 2) : tripwireref10_change.j3 (k + 1) b x0 x1 x2 x3 x4 x5 x6 x7 x8 = some (chgV x0 x7 x8) := by
  simp only [tripwireref10_change.j3, chgV]
  by_cases h : b = true
  · rw [if_pos h, if_pos (.inr (hb.1 h))]
  · have hn : ¬ (x0 = 2 ∨ x0 = 3 ∨ x0 = 4) := fun e => h (hb.2 (e.resolve_left h2))
    rw [if_neg h, if_neg hn]
    (repeat' split) <;> simp_all
theorem ref_c2 (k : Nat) (b : Bool) (x0 x1 x2 x3 x4 x5 x6 x7 x8 : Int) (h2 : b = true ∨ x0 ≠ 2) : tripwireref10_change.j2 (k + 2) b x0 x1 x2 x3 x4 x5 x6 x7 x8 = some (if b = true then 0 else chgV x0 x7 x8) := by
  simp only [tripwireref10_change.j2]
  by_cases h : b = true
  · rw [if_pos h, if_pos h]
  · have h2 := h2.resolve_left h
    rw [if_neg h, if_neg h]
    by_cases h3 : x0 = 3
    · rw [if_pos h3]; exact ref_c3 k _ x0 x1 x2 x3 x4 x5 x6 x7 x8 (by simp [h3]) h2
    · rw [if_neg h3]; exact ref_c3 k _ x0 x1 x2 x3 x4 x5 x6 x7 x8 (by simp [h3]) h2
theorem ref_c1 (k : Nat) (b : Bool) (x0 x1 x2 x3 x4 x5 x6 x7 x8 c : Int) (hb : b = true ↔ x0 = 2 ∧ x4 = c) : tripwireref10_change.j1 (k + 3) c b x0 x1 x2 x3 x4 x5 x6 x7 x8 = some (if (if x0 = 2 then x4 else x3) = c then chgV x0 x7 x8 else 0) := by
  simp only [tripwireref10_change.j1]
  by_cases h : b = true
  · obtain ⟨h1, h2⟩ := hb.1 h
    rw [if_pos h, if_pos h1, if_pos h2]
    unfold chgV
    rw [if_pos (.inl h1)]
  · rw [if_neg h]
    by_cases h2 : x0 = 2
    · rw [if_pos h2, if_pos h2, if_neg (fun e => h (hb.2 ⟨h2, e⟩)), ref_c2 k _ _ _ _ _ _ _ _ _ _ (.inl rfl), if_pos rfl]
    · rw [if_neg h2, if_neg h2, ref_c2 k _ _ _ _ _ _ _ _ _ _ (.inr h2)]
      by_cases h3 : x3 = c
      · rw [if_pos h3, if_neg (by simp [h3])]
      · rw [if_neg h3, if_pos (by simpa using h3)]
theorem ref_c0 (k : Nat) (b : Bool) (x0 x1 x2 x3 x4 x5 x6 x7 x8 c : Int) : tripwireref10_change.j0 (k + 4) c b x0 x1 x2 x3 x4 x5 x6 x7 x8 = some (if b = true then 0 else if (if x0 = 2 then x4 else x3) = c then chgV x0 x7 x8 else 0) := by
  simp only [tripwireref10_change.j0]
  by_cases h : b = true
  · rw [if_pos h, if_pos h]
  · rw [if_neg h, if_neg h]
    by_cases h2 : x0 = 2
    · rw [if_pos h2, ref_c1 k _ _ _ _ _ _ _ _ _ _ _ (by simp [h2])]
    · rw [if_neg h2, ref_c1 k _ _ _ _ _ _ _ _ _ _ _ (by simp [h2])]
theorem ref_chg (k : Nat) (x0 x1 x2 x3 x4 x5 x6 x7 x8 c : Int) : tripwireref10_change.f (k + 4) x0 x1 x2 x3 x4 x5 x6 x7 x8 c = some (chg x0 x3 x4 x7 x8 c) := by
  have hz : ∀ q : Int, szd q = true ↔ 0 ≤ q ∧ q ≤ 1000000000 := fun q => by simp [szd]
  unfold tripwireref10_change.f chg
  by_cases h1 : x7 < 0
  · rw [if_pos h1, ref_c0, if_pos rfl, if_neg (fun e => by have := (hz _).1 e.2.1; omega)]
  rw [if_neg h1]
  by_cases h2 : x7 > 1000000000
  · rw [if_pos h2, ref_c0, if_pos rfl, if_neg (fun e => by have := (hz _).1 e.2.1; omega)]
  rw [if_neg h2]
  by_cases h3 : x8 < 0
  · rw [if_pos h3, ref_c0, if_pos rfl, if_neg (fun e => by have := (hz _).1 e.2.2; omega)]
  rw [if_neg h3, ref_c0]
  by_cases h4 : x8 > 1000000000
  · rw [if_pos (by simpa using h4), if_neg (fun e => by have := (hz _).1 e.2.2; omega)]
  · rw [if_neg (by simpa using h4)]
    have e7 : szd x7 = true := (hz _).2 (by omega)
    have e8 : szd x8 = true := (hz _).2 (by omega)
    simp [e7, e8]

/-- What an event is to a client. -/
def fdE (x : S161) (c : Int) : List S158 := (if x.f0 = 2 then [⟨3, x.f6, x.f7⟩] else []) ++ (if chg x.f0 x.f3 x.f4 x.f7 x.f8 c = 0 then [] else [⟨5, chg x.f0 x.f3 x.f4 x.f7 x.f8 c, 0⟩])
theorem fdE_len (x : S161) (c : Int) : (fdE x c).length ≤ 2 := by
  unfold fdE
  rw [List.length_append]
  repeat' split <;> simp
/-- What two markets' best prices are to it. -/
def fdT (b0 b1 a0 a1 : Int) : List S158 := (if a0 = b0 then [] else [⟨1, a0, 0⟩]) ++ (if a1 = b1 then [] else [⟨2, a1, 0⟩])
theorem fdT_len (b0 b1 a0 a1 : Int) : (fdT b0 b1 a0 a1).length ≤ 2 := by
  unfold fdT
  rw [List.length_append]
  repeat' split <;> simp

theorem rd_at {l : List S161} {i : Nat} (h : i < l.length) : rd_T161 l (i : Int) = l[i] := by
  unfold rd_T161
  simp [List.getD_eq_getElem?_getD, h]
theorem snap_end (k : Nat) (c : Int) (acc : List S158) (l : List S161) (b0 b1 b2 b3 a0 a1 a2 a3 : Int) (ha : acc.length ≤ 5864062014803) : snap_Feeds.l0 (k + 1) c acc l (l.length : Int) (l.length : Int) b0 b1 b2 b3 a0 a1 a2 a3 = some (acc ++ fdT b0 b1 a0 a1) := by
  simp only [snap_Feeds.l0]
  rw [if_neg (by omega)]
  unfold fdT
  by_cases h0 : a0 = b0
  · rw [if_pos h0, if_pos h0]
    by_cases h1 : a1 = b1
    · rw [if_pos h1, if_pos h1]; simp
    · rw [if_neg h1, if_neg h1, if_pos (by omega)]; simp
  · rw [if_neg h0, if_neg h0, if_pos (by omega), Option.bind_some]
    by_cases h1 : a1 = b1
    · rw [if_pos h1, if_pos h1]; simp
    · rw [if_neg h1, if_neg h1, if_pos (by rw [List.length_append]; simp; omega)]; simp
theorem snap_l (c : Int) (l : List S161) (b0 b1 b2 b3 a0 a1 a2 a3 : Int) (hl : l.length ≤ 33554431) : ∀ (d i k : Nat) (acc : List S158), i + d = l.length → d + 5 ≤ k → acc.length ≤ 2 * i →
    snap_Feeds.l0 k c acc l (l.length : Int) (i : Int) b0 b1 b2 b3 a0 a1 a2 a3 = some (acc ++ ((l.drop i).flatMap fun x => fdE x c) ++ fdT b0 b1 a0 a1) := by
  intro d
  induction d with
  | zero =>
    intro i k acc hi hk ha
    obtain ⟨j, rfl⟩ : ∃ j, k = j + 1 := ⟨k - 1, by omega⟩
    obtain rfl : i = l.length := by omega
    rw [snap_end _ _ _ _ _ _ _ _ _ _ _ _ (by omega)]
    simp
  | succ d ih =>
    intro i k acc hi hk ha
    obtain ⟨j, rfl⟩ : ∃ j, k = j + 3 + 1 := ⟨k - 4, by omega⟩
    have hil : i < l.length := by omega
    simp only [snap_Feeds.l0]
    rw [if_pos (by omega), if_pos (by omega), if_pos (by omega)]
    rw [rd_at hil, List.drop_eq_getElem_cons hil, List.flatMap_cons]
    rw [show wrap64 ((i : Int) + 1) = ((i + 1 : Nat) : Int) by unfold wrap64; omega]
    have hf2 := fdE_len l[i] c
    generalize l[i] = x at hf2 ⊢
    have he : ∀ acc', acc' = acc ++ fdE x c → snap_Feeds.l0 (j + 3) c acc' l (l.length : Int) ((i + 1 : Nat) : Int) b0 b1 b2 b3 a0 a1 a2 a3 = some (acc ++ (fdE x c ++ (l.drop (i + 1)).flatMap fun x => fdE x c) ++ fdT b0 b1 a0 a1) := fun acc' e => by
      rw [ih (i + 1) (j + 3) acc' (by omega) (by omega) (by rw [e, List.length_append]; omega), e, List.append_assoc acc]
    unfold fdE at he ⊢
    by_cases h2 : x.f0 = 2
    · rw [if_pos h2, if_pos (by omega), Option.bind_some, snap_chg, Option.bind_some]
      simp only [if_pos h2] at he ⊢
      by_cases h3 : chg x.f0 x.f3 x.f4 x.f7 x.f8 c = 0
      · rw [if_pos h3] at he ⊢
        simp only [if_pos h3] at he ⊢
        exact he _ (by simp)
      · rw [if_neg h3] at he ⊢
        simp only [if_neg h3] at he ⊢
        rw [if_pos (by rw [List.length_append]; simp; omega)]
        exact he _ (by simp)
    · rw [if_neg h2, snap_chg, Option.bind_some]
      simp only [if_neg h2] at he ⊢
      by_cases h3 : chg x.f0 x.f3 x.f4 x.f7 x.f8 c = 0
      · rw [if_pos h3] at he ⊢
        simp only [if_pos h3] at he ⊢
        exact he _ (by simp)
      · rw [if_neg h3] at he ⊢
        simp only [if_neg h3] at he ⊢
        rw [if_pos (by omega)]
        exact he _ (by simp)
theorem ref_end (k : Nat) (c : Int) (acc : List S158) (l : List S161) (b0 b1 b2 b3 a0 a1 a2 a3 : Int) (ha : acc.length ≤ 5864062014803) : tripwireref10_Feeds.l0 (k + 1) c l acc (l.length : Int) b0 b1 b2 b3 a0 a1 a2 a3 = some (acc ++ fdT b0 b1 a0 a1) := by
  simp only [tripwireref10_Feeds.l0]
  rw [if_neg (by omega)]
  unfold fdT
  by_cases h0 : a0 = b0
  · rw [if_pos h0, if_pos h0]
    by_cases h1 : a1 = b1
    · rw [if_pos h1, if_pos h1]; simp
    · rw [if_neg h1, if_neg h1, if_pos (by omega)]; simp
  · rw [if_neg h0, if_neg h0, if_pos (by omega), Option.bind_some]
    by_cases h1 : a1 = b1
    · rw [if_pos h1, if_pos h1]; simp
    · rw [if_neg h1, if_neg h1, if_pos (by rw [List.length_append]; simp; omega)]; simp
theorem ref_l (c : Int) (l : List S161) (b0 b1 b2 b3 a0 a1 a2 a3 : Int) (hl : l.length ≤ 33554431) : ∀ (d i k : Nat) (acc : List S158), i + d = l.length → d + 6 ≤ k → acc.length ≤ 2 * i →
    tripwireref10_Feeds.l0 k c l acc (i : Int) b0 b1 b2 b3 a0 a1 a2 a3 = some (acc ++ ((l.drop i).flatMap fun x => fdE x c) ++ fdT b0 b1 a0 a1) := by
  intro d
  induction d with
  | zero =>
    intro i k acc hi hk ha
    obtain ⟨j, rfl⟩ : ∃ j, k = j + 1 := ⟨k - 1, by omega⟩
    obtain rfl : i = l.length := by omega
    rw [ref_end _ _ _ _ _ _ _ _ _ _ _ _ (by omega)]
    simp
  | succ d ih =>
    intro i k acc hi hk ha
    obtain ⟨j, rfl⟩ : ∃ j, k = j + 4 + 1 := ⟨k - 5, by omega⟩
    have hil : i < l.length := by omega
    simp only [tripwireref10_Feeds.l0]
    rw [if_pos (by omega), if_pos (by omega)]
    rw [rd_at hil, List.drop_eq_getElem_cons hil, List.flatMap_cons]
    rw [show wrap64 ((i : Int) + 1) = ((i + 1 : Nat) : Int) by unfold wrap64; omega]
    have hf2 := fdE_len l[i] c
    generalize l[i] = x at hf2 ⊢
    have he : ∀ acc', acc' = acc ++ fdE x c → tripwireref10_Feeds.l0 (j + 4) c l acc' ((i + 1 : Nat) : Int) b0 b1 b2 b3 a0 a1 a2 a3 = some (acc ++ (fdE x c ++ (l.drop (i + 1)).flatMap fun x => fdE x c) ++ fdT b0 b1 a0 a1) := fun acc' e => by
      rw [ih (i + 1) (j + 4) acc' (by omega) (by omega) (by rw [e, List.length_append]; omega), e, List.append_assoc acc]
    unfold fdE at he ⊢
    by_cases h2 : x.f0 = 2
    · rw [if_pos h2, if_pos (by omega), Option.bind_some, ref_chg, Option.bind_some]
      simp only [if_pos h2] at he ⊢
      by_cases h3 : chg x.f0 x.f3 x.f4 x.f7 x.f8 c = 0
      · rw [if_pos h3] at he ⊢
        simp only [if_pos h3] at he ⊢
        exact he _ (by simp)
      · rw [if_neg h3] at he ⊢
        simp only [if_neg h3] at he ⊢
        rw [if_pos (by rw [List.length_append]; simp; omega)]
        exact he _ (by simp)
    · rw [if_neg h2, ref_chg, Option.bind_some]
      simp only [if_neg h2] at he ⊢
      by_cases h3 : chg x.f0 x.f3 x.f4 x.f7 x.f8 c = 0
      · rw [if_pos h3] at he ⊢
        simp only [if_pos h3] at he ⊢
        exact he _ (by simp)
      · rw [if_neg h3] at he ⊢
        simp only [if_neg h3] at he ⊢
        rw [if_pos (by omega)]
        exact he _ (by simp)

/-- What events are to a client. -/
def fdP (b0 b1 a0 a1 c : Int) (l : List S161) : List S158 := (l.flatMap fun x => fdE x c) ++ fdT b0 b1 a0 a1
theorem flat_le (c : Int) : ∀ l : List S161, (l.flatMap fun x => fdE x c).length ≤ 2 * l.length
  | [] => by simp
  | x :: t => by
    have h1 := flat_le c t
    have h2 := fdE_len x c
    rw [List.flatMap_cons, List.length_append, List.length_cons]
    omega
theorem fdP_len (b0 b1 a0 a1 c : Int) (l : List S161) : (fdP b0 b1 a0 a1 c l).length ≤ 2 * l.length + 2 := by
  have h1 := fdT_len b0 b1 a0 a1
  have h2 := flat_le c l
  unfold fdP
  rw [List.length_append]
  omega
theorem snap_fd (c : Int) (l : List S161) (b0 b1 b2 b3 a0 a1 a2 a3 : Int) (hl : l.length ≤ 33554431) : snap_Feeds.f (l.length + 6) b0 b1 b2 b3 a0 a1 a2 a3 c l = some (fdP b0 b1 a0 a1 c l) := by
  unfold snap_Feeds.f fdP
  have := snap_l c l b0 b1 b2 b3 a0 a1 a2 a3 hl l.length 0 (l.length + 6) [] (by omega) (by omega) (by simp)
  simpa using this
theorem ref_fd (c : Int) (l : List S161) (b0 b1 b2 b3 a0 a1 a2 a3 : Int) (hl : l.length ≤ 33554431) : tripwireref10_Feeds.f (l.length + 6) b0 b1 b2 b3 a0 a1 a2 a3 c l = some (fdP b0 b1 a0 a1 c l) := by
  unfold tripwireref10_Feeds.f fdP
  have := ref_l c l b0 b1 b2 b3 a0 a1 a2 a3 hl l.length 0 (l.length + 6) [] (by omega) (by omega) (by simp)
  simpa using this
end Go.Proofs.Ytiiflgihjnlmcaa
