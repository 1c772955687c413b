/- SnapFolds: the document's answers are the same functions. Conditions: the numbers are of their kinds. -/
import Derived.Test.YtiiflgihjnlmcaaSnap5
import Derived.Test.YtiiflgihjnlmcaaPSnapFoldsx6
namespace Go.Proofs.Ytiiflgihjnlmcaa
set_option linter.unusedVariables false
set_option linter.unusedSimpArgs false
open Go.RowKit Go.Proofs.YtiiflgihjnlmcaaW.PrintWords Go.Proofs.YtiiflgihjnlmcaaW.PrintLast Go.Proofs.YtiiflgihjnlmcaaW.PrintMore Go.Proofs.Ytiiflgihjnlmcaa.PSnapFolds

theorem snOk_iff {x0 x1 x2 x3 x4 x5 : Int} : snOk x0 x1 x2 x3 x4 x5 = true ↔ (0 ≤ x0 ∧ x0 ≤ 1000000000) ∧ (0 ≤ x1 ∧ x1 ≤ 1000000000) ∧ (0 ≤ x2 ∧ x2 ≤ 1000000000) ∧ (0 ≤ x3 ∧ x3 ≤ 1000000000000000) ∧ (0 ≤ x4 ∧ x4 ≤ 1000000000000000) ∧ (0 ≤ x5 ∧ x5 ≤ 256000000000) := by
  simp only [snOk, Bool.and_eq_true, okI_iff, and_assoc]

theorem ref_j0 (j : Nat) (b : Bool) (x0 x1 x2 x3 x4 x5 : Int) : tripwireref10_Check.j0 (j + 1) b x0 x1 x2 x3 x4 x5 = some (if b = true ∨ ¬ ((0 ≤ x3 ∧ x3 ≤ 1000000000000000) ∧ (0 ≤ x4 ∧ x4 ≤ 1000000000000000) ∧ (0 ≤ x5 ∧ x5 ≤ 256000000000)) then 100 else 0) := by
  simp only [tripwireref10_Check.j0]
  by_cases hb : b = true
  · rw [if_pos hb, if_pos (Or.inl hb)]
  rw [if_neg hb]
  by_cases h : x3 < 0
  · rw [if_pos h, if_pos (Or.inr (by omega))]
  rw [if_neg h]
  have cx3l0 := h
  clear h
  by_cases h : x3 > 1000000000000000
  · rw [if_pos h, if_pos (Or.inr (by omega))]
  rw [if_neg h]
  have cx3g1000000000000000 := h
  clear h
  by_cases h : x4 < 0
  · rw [if_pos h, if_pos (Or.inr (by omega))]
  rw [if_neg h]
  have cx4l0 := h
  clear h
  by_cases h : x4 > 1000000000000000
  · rw [if_pos h, if_pos (Or.inr (by omega))]
  rw [if_neg h]
  have cx4g1000000000000000 := h
  clear h
  by_cases h : x5 < 0
  · rw [if_pos h, if_pos (Or.inr (by omega))]
  rw [if_neg h]
  have cx5l0 := h
  clear h
  by_cases h : x5 > 256000000000
  · rw [if_pos h, if_pos (Or.inr (by omega))]
  rw [if_neg h]
  have cx5g256000000000 := h
  clear h
  rw [if_neg (fun e => e.elim hb (fun e => e (by omega)))]

theorem ref_check (k : Nat) (hk : 0 < k) (x0 x1 x2 x3 x4 x5 : Int) : tripwireref10_Check.f k x0 x1 x2 x3 x4 x5 = some (if snOk x0 x1 x2 x3 x4 x5 = true then 0 else 100) := by
  obtain ⟨j, rfl⟩ : ∃ j, k = j + 1 := ⟨k - 1, by omega⟩
  have hT := ref_j0 j true x0 x1 x2 x3 x4 x5
  rw [if_pos (Or.inl rfl)] at hT
  have hno : ∀ (h : ¬ ((0 ≤ x0 ∧ x0 ≤ 1000000000) ∧ (0 ≤ x1 ∧ x1 ≤ 1000000000) ∧ (0 ≤ x2 ∧ x2 ≤ 1000000000) ∧ (0 ≤ x3 ∧ x3 ≤ 1000000000000000) ∧ (0 ≤ x4 ∧ x4 ≤ 1000000000000000) ∧ (0 ≤ x5 ∧ x5 ≤ 256000000000))), (if snOk x0 x1 x2 x3 x4 x5 = true then (0 : Int) else 100) = 100 := fun h => if_neg (fun e => h (snOk_iff.1 e))
  unfold tripwireref10_Check.f
  by_cases h : x0 < 0
  · rw [if_pos h, hT, hno (by omega)]
  rw [if_neg h]
  have cx0l0 := h
  clear h
  by_cases h : x0 > 1000000000
  · rw [if_pos h, hT, hno (by omega)]
  rw [if_neg h]
  have cx0g1000000000 := h
  clear h
  by_cases h : x1 < 0
  · rw [if_pos h, hT, hno (by omega)]
  rw [if_neg h]
  have cx1l0 := h
  clear h
  by_cases h : x1 > 1000000000
  · rw [if_pos h, hT, hno (by omega)]
  rw [if_neg h]
  have cx1g1000000000 := h
  clear h
  by_cases h : x2 < 0
  · rw [if_pos h, hT, hno (by omega)]
  rw [if_neg h]
  have cx2l0 := h
  clear h
  rw [ref_j0]
  by_cases h : x2 > 1000000000
  · rw [if_pos (Or.inl (by simpa using h)), hno (by omega)]
  by_cases h3 : (0 ≤ x3 ∧ x3 ≤ 1000000000000000) ∧ (0 ≤ x4 ∧ x4 ≤ 1000000000000000) ∧ (0 ≤ x5 ∧ x5 ≤ 256000000000)
  · rw [if_neg (fun e => e.elim (fun e => h (by simpa using e)) (fun e => e h3)), if_pos (snOk_iff.2 (by omega))]
  · rw [if_pos (Or.inr h3), hno (fun e => h3 e.2.2.2)]

theorem ref_get (x0 x1 x2 x3 x4 x5 : Int) (i : Nat) : tripwireref10_Get.f x0 x1 x2 x3 x4 x5 (i : Int) = some (sev x0 x1 x2 x3 x4 x5 i) := by
  unfold tripwireref10_Get.f
  match i with
  | 0 => rfl
  | 1 => rfl
  | 2 => rfl
  | 3 => rfl
  | 4 => rfl
  | 5 => rfl
  | 6 => rfl
  | i + 7 =>
    rw [if_neg (by omega), if_neg (by omega), if_neg (by omega), if_neg (by omega), if_neg (by omega), if_neg (by omega)]
    rfl

theorem shl_pow : ∀ i : Nat, i < 7 → ∀ m : Nat, m < 2 ^ i → IntKind.u16.wrap ((m : Int) + shl .u16 1 (i : Int)) = ((m + 2 ^ i : Nat) : Int) := by
  intro i hi m hm
  have e : shl .u16 1 (i : Int) = ((2 ^ i : Nat) : Int) := by
    match i, hi with
    | 0, _ => decide
    | 1, _ => decide
    | 2, _ => decide
    | 3, _ => decide
    | 4, _ => decide
    | 5, _ => decide
    | 6, _ => decide
  rw [e, IntKind.wrap_u16]
  have : (2 : Nat) ^ i ≤ 2 ^ 6 := Nat.pow_le_pow_right (by decide) (by omega)
  omega

theorem ref_diff_l (x0 x1 x2 x3 x4 x5 y0 y1 y2 y3 y4 y5 : Int) : ∀ (d i k : Nat), i + d = 7 → d < k →
    tripwireref10_Diff.l0 k (maskN (sev x0 x1 x2 x3 x4 x5) (sev y0 y1 y2 y3 y4 y5) i : Nat) (i : Int) x0 x1 x2 x3 x4 x5 y0 y1 y2 y3 y4 y5 = some ((maskN (sev x0 x1 x2 x3 x4 x5) (sev y0 y1 y2 y3 y4 y5) 7 : Nat) : Int) := by
  intro d
  induction d with
  | zero =>
    intro i k hi hk
    obtain ⟨j, rfl⟩ : ∃ j, k = j + 1 := ⟨k - 1, by omega⟩
    obtain rfl : i = 7 := by omega
    simp only [tripwireref10_Diff.l0]
    rw [if_neg (by decide)]
  | succ d ih =>
    intro i k hi hk
    obtain ⟨j, rfl⟩ : ∃ j, k = j + 1 := ⟨k - 1, by omega⟩
    have h := ih (i + 1) j (by omega) (by omega)
    simp only [tripwireref10_Diff.l0]
    rw [if_pos (by omega), ref_get, ref_get]
    simp only [Option.bind_some]
    have e1 : ((i : Int) + 1) % 256 = ((i + 1 : Nat) : Int) := by omega
    by_cases e : sev x0 x1 x2 x3 x4 x5 i = sev y0 y1 y2 y3 y4 y5 i
    · rw [if_pos e, e1]
      simp only [maskN, if_pos e] at h
      exact h
    · rw [if_neg e, if_pos (by omega), e1, shl_pow i (by omega) _ (maskN_lt _ _ i)]
      simp only [maskN, if_neg e] at h
      exact h

theorem ref_diff (k : Nat) (hk : 6 < k) (x0 x1 x2 x3 x4 x5 y0 y1 y2 y3 y4 y5 : Int) : tripwireref10_Diff.f k x0 x1 x2 x3 x4 x5 y0 y1 y2 y3 y4 y5 = some ((maskN (sev x0 x1 x2 x3 x4 x5) (sev y0 y1 y2 y3 y4 y5) 7 : Nat) : Int) :=
  ref_diff_l x0 x1 x2 x3 x4 x5 y0 y1 y2 y3 y4 y5 6 1 k rfl hk

theorem check_zero (b : Bool) : (((if b = true then (0 : Int) else 100) == 0) = b) := by cases b <;> rfl

theorem ref_one (k : Nat) (hk : 0 < k) (s : Sn) (x : Int × Int × Int) (hs : s.ok = true) (hx : FeedOk x) :
    ∃ t b, tripwireref10_one.f k s.a0 s.a1 s.a2 s.a3 s.a4 s.a5 x.1 x.2.1 x.2.2 = some (t.a0, t.a1, t.a2, t.a3, t.a4, t.a5, b) ∧ s.step x = if b = true then some t else none := by
  obtain ⟨x0, x1, x2, x3, x4, x5⟩ := s
  obtain ⟨kd, a, b⟩ := x
  have hb := snOk_iff.1 hs
  obtain ⟨⟨hk0, hk1⟩, ⟨ha0, ha1⟩, ⟨hb0, hb1⟩⟩ := hx
  simp only at hk0 hk1 ha0 ha1 hb0 hb1 hb
  simp only [tripwireref10_one.f, ref_check k hk, Option.bind_some, check_zero, Sn.step, Sn.raw]
  by_cases q1 : kd = 1
  · simp only [if_pos q1, Option.bind_some]
    exact ⟨⟨a, x1, x2, x3, x4, x5⟩, _, rfl, rfl⟩
  · simp only [if_neg q1]
    by_cases q2 : kd = 2
    · simp only [if_pos q2, Option.bind_some]
      exact ⟨⟨x0, a, x2, x3, x4, x5⟩, _, rfl, rfl⟩
    · simp only [if_neg q2]
      by_cases q3 : kd = 3
      · simp only [if_pos q3]
        by_cases c1 : a < 1
        · rw [if_pos c1, if_neg (by omega)]
          exact ⟨⟨x0, x1, x2, x3, x4, x5⟩, false, rfl, rfl⟩
        · rw [if_neg c1]
          by_cases c2 : b < 1
          · rw [if_pos c2, if_neg (by omega)]
            exact ⟨⟨x0, x1, x2, x3, x4, x5⟩, false, rfl, rfl⟩
          · rw [if_neg c2]
            by_cases c3 : b > 1000000000
            · rw [if_pos c3, if_neg (by omega)]
              exact ⟨⟨x0, x1, x2, x3, x4, x5⟩, false, rfl, rfl⟩
            · rw [if_neg c3, if_pos (by omega), show wrap64 (x3 + b) = x3 + b by unfold wrap64; omega]
              exact ⟨⟨x0, x1, a, x3 + b, x4, x5⟩, _, rfl, rfl⟩
      · simp only [if_neg q3]
        by_cases q4 : kd = 4
        · simp only [if_pos q4]
          by_cases c1 : a < x4
          · rw [if_pos c1, if_neg (by omega)]
            exact ⟨⟨x0, x1, x2, x3, x4, x5⟩, false, rfl, rfl⟩
          · rw [if_neg c1, if_pos (by omega)]
            exact ⟨⟨x0, x1, x2, x3, a, x5⟩, _, rfl, rfl⟩
        · simp only [if_neg q4]
          by_cases q5 : kd = 5
          · simp only [if_pos q5]
            have hno : ∀ (h : ¬ (0 ≤ x5 + a ∧ x5 + a ≤ 256000000000)), (if I64 (x5 + a) then some (⟨x0, x1, x2, x3, x4, x5 + a⟩ : Sn) else none).bind (fun t => if t.ok = true then some t else none) = none := by
              intro h
              split
              · simp only [Option.bind_some]
                rw [if_neg (show ¬ (Sn.ok ⟨x0, x1, x2, x3, x4, x5 + a⟩ = true) from fun e => h (snOk_iff.1 e).2.2.2.2.2)]
              · rfl
            by_cases c1 : a < -256000000000
            · rw [if_pos c1, hno (by omega)]
              exact ⟨⟨x0, x1, x2, x3, x4, x5⟩, false, rfl, rfl⟩
            · rw [if_neg c1]
              by_cases c2 : a > 256000000000
              · rw [if_pos c2, hno (by omega)]
                exact ⟨⟨x0, x1, x2, x3, x4, x5⟩, false, rfl, rfl⟩
              · rw [if_neg c2, show wrap64 (x5 + a) = x5 + a by unfold wrap64; omega, if_pos (show I64 (x5 + a) by unfold I64; omega)]
                exact ⟨⟨x0, x1, x2, x3, x4, x5 + a⟩, _, rfl, rfl⟩
          · simp only [if_neg q5]
            exact ⟨⟨x0, x1, x2, x3, x4, x5⟩, false, rfl, rfl⟩

/-- The document's Fold, from a place on. -/
theorem ref_fold_l (s : Sn) (l : List S158) (hl : (l.length : Int) ≤ 9223372036854775806) (hok : ∀ x ∈ l, FeedOk (x.f0, x.f1, x.f2)) : ∀ (d i k : Nat) (t : Sn), i + d = l.length → d + 8 ≤ k → t.ok = true →
    tripwireref10_Fold.l0 k l (i : Int) s.a0 s.a1 s.a2 s.a3 s.a4 s.a5 t.a0 t.a1 t.a2 t.a3 t.a4 t.a5 =
      some (match foldL t ((l.drop i).map fun x => (x.f0, x.f1, x.f2)) with
        | some u => (u.a0, u.a1, u.a2, u.a3, u.a4, u.a5, ((s.mask u : Nat) : Int), 0)
        | none => (0, 0, 0, 0, 0, 0, 0, 100)) := by
  intro d
  induction d with
  | zero =>
    intro i k t hi hk ht
    obtain ⟨j, rfl⟩ : ∃ j, k = j + 1 := ⟨k - 1, by omega⟩
    obtain rfl : i = l.length := by omega
    simp only [tripwireref10_Fold.l0]
    rw [if_neg (by omega), ref_diff j (by omega), List.drop_eq_nil_of_le (Nat.le_refl _)]
    rfl
  | succ d ih =>
    intro i k t hi hk ht
    obtain ⟨j, rfl⟩ : ∃ j, k = j + 1 := ⟨k - 1, by omega⟩
    have hil : i < l.length := by omega
    have e1 : rd_T158 l (i : Int) = l[i] := by unfold rd_T158; rw [Int.toNat_natCast, List.getD_eq_getElem?_getD, List.getElem?_eq_getElem hil]; rfl
    obtain ⟨u, b, h1, h2⟩ := ref_one j (by omega) t (l[i].f0, l[i].f1, l[i].f2) ht (hok _ (List.getElem_mem hil))
    simp only at h1
    simp only [tripwireref10_Fold.l0]
    rw [if_pos (by omega), if_pos (by omega), e1, h1, List.drop_eq_getElem_cons hil]
    simp only [Option.bind_some, List.map_cons, foldL, h2]
    cases b with
    | false => rfl
    | true =>
      rw [if_pos rfl, if_pos rfl, show wrap64 ((i : Int) + 1) = ((i + 1 : Nat) : Int) by unfold wrap64; omega]
      simp only [Option.bind_some]
      exact ih (i + 1) j u (by omega) (by omega) (step_ok (by rw [h2, if_pos rfl]))

theorem ref_fold (s : Sn) (l : List S158) (hl : (l.length : Int) ≤ 9223372036854775806) (hok : ∀ x ∈ l, FeedOk (x.f0, x.f1, x.f2)) (k : Nat) (hk : l.length + 8 ≤ k) :
    tripwireref10_Fold.f k s.a0 s.a1 s.a2 s.a3 s.a4 s.a5 l = some (match foldP s (l.map fun x => (x.f0, x.f1, x.f2)) with
        | some u => (u.a0, u.a1, u.a2, u.a3, u.a4, u.a5, ((s.mask u : Nat) : Int), 0)
        | none => (0, 0, 0, 0, 0, 0, 0, 100)) := by
  unfold tripwireref10_Fold.f foldP
  rw [ref_check k (by omega)]
  simp only [Option.bind_some]
  by_cases h : s.ok = true
  · have e : snOk s.a0 s.a1 s.a2 s.a3 s.a4 s.a5 = true := h
    rw [e, if_pos rfl, if_pos rfl, if_pos h]
    exact ref_fold_l s l hl hok l.length 0 k s (by omega) hk h
  · have e : ¬ snOk s.a0 s.a1 s.a2 s.a3 s.a4 s.a5 = true := h
    rw [if_neg e, if_neg (by decide), if_neg h]
end Go.Proofs.Ytiiflgihjnlmcaa
