/- Slots: the plain side of SlotsRow: the numbers that are not gone, in order; slices of numbers that came in. No condition. -/
import Derived.Test.YtiiflgihjnlmcaaSlotsW
import Derived.Test.YtiiflgihjnlmcaaFlat2
namespace Go.Proofs.Ytiiflgihjnlmcaa
set_option linter.unusedVariables false
set_option linter.unusedSimpArgs false
open Go.RowKit Go.ChangeShapes

def rowF (g : Nat → Bool) : Nat → Nat → List Nat
  | _, 0 => []
  | i, c + 1 => if g i then rowF g (i + 1) c else i :: rowF g (i + 1) c

theorem rowF_succ (g : Nat → Bool) (i c : Nat) : rowF g i (c + 1) = if g i then rowF g (i + 1) c else i :: rowF g (i + 1) c := rfl

theorem rowF_mem (g : Nat → Bool) : ∀ (c i m : Nat), m ∈ rowF g i c ↔ i ≤ m ∧ m < i + c ∧ g m = false := by
  intro c
  induction c with
  | zero => intro i m; simp only [rowF, List.not_mem_nil, false_iff]; omega
  | succ c ih =>
    intro i m
    unfold rowF
    by_cases hg : g i = true
    · rw [if_pos hg, ih]
      constructor
      · rintro ⟨h1, h2, h3⟩; exact ⟨by omega, by omega, h3⟩
      · rintro ⟨h1, h2, h3⟩
        have : m ≠ i := fun e => by rw [e, hg] at h3; cases h3
        exact ⟨by omega, by omega, h3⟩
    · have hg' : g i = false := by simpa using hg
      rw [if_neg hg, List.mem_cons, ih]
      constructor
      · rintro (rfl | ⟨h1, h2, h3⟩)
        · exact ⟨Nat.le_refl _, by omega, hg'⟩
        · exact ⟨by omega, by omega, h3⟩
      · rintro ⟨h1, h2, h3⟩
        by_cases e : m = i
        · exact .inl e
        · exact .inr ⟨by omega, by omega, h3⟩
theorem rowF_upd (g : Nat → Bool) (k : Nat) (v : Bool) : ∀ (c i : Nat), k < i → rowF (upd g k v) i c = rowF g i c := by
  intro c
  induction c with
  | zero => intro i _; rfl
  | succ c ih =>
    intro i h
    unfold rowF
    rw [upd_other (show i ≠ k by omega), ih (i + 1) (by omega)]
theorem rowF_split (g : Nat → Bool) (k : Nat) (hk : g k = false) : ∀ (c i : Nat), i ≤ k → k < i + c →
    ∃ l1, rowF g i c = l1 ++ k :: rowF g (k + 1) (i + c - (k + 1)) ∧ rowF (upd g k true) i c = l1 ++ rowF g (k + 1) (i + c - (k + 1)) := by
  intro c
  induction c with
  | zero => intro i h1 h2; omega
  | succ c ih =>
    intro i h1 h2
    by_cases e : i = k
    · subst e
      refine ⟨[], ?_, ?_⟩
      · have e : i + (c + 1) - (i + 1) = c := by omega
        rw [e]; simp [rowF, hk]
      · have e : i + (c + 1) - (i + 1) = c := by omega
        rw [e, rowF_succ, upd_same, if_pos rfl, rowF_upd _ _ _ _ _ (by omega)]; rfl
    · obtain ⟨l1, e1, e2⟩ := ih (i + 1) (by omega) (by omega)
      have e3 : i + 1 + c - (k + 1) = i + (c + 1) - (k + 1) := by omega
      rw [e3] at e1 e2
      rw [rowF_succ g i c, rowF_succ (upd g k true) i c, upd_other e]
      by_cases hg : g i = true
      · rw [if_pos hg, if_pos hg]; exact ⟨l1, e1, e2⟩
      · rw [if_neg hg, if_neg hg]; exact ⟨i :: l1, by rw [e1]; rfl, by rw [e2]; rfl⟩
theorem rowF_snoc (g : Nat → Bool) : ∀ (c i : Nat), rowF g i (c + 1) = rowF g i c ++ (if g (i + c) then [] else [i + c]) := by
  intro c
  induction c with
  | zero => intro i; by_cases h : g i = true <;> simp [rowF, h]
  | succ c ih =>
    intro i
    have e : i + 1 + c = i + (c + 1) := by omega
    rw [rowF, ih (i + 1), e]
    conv => rhs; rw [rowF]
    by_cases h : g i = true
    · rw [if_pos h, if_pos h]
    · rw [if_neg h, if_neg h]; rfl

/-- Whole numbers that came in. -/
theorem SliceIn.ints {w : World} {a : Option Addr} {len cap : Nat} {rows : List (List Value)} (h : SliceIn w a len cap [.i .i64] rows) :
    ∃ (xs : Nat → Int) (B off : Nat), (0 < len → a = some ⟨B, off, none⟩ ∧ B < w.heap.size) ∧ ∀ k, k < len → w.cell? ⟨B, off + k, none⟩ = some (.int .i64 (xs k)) ∧ (Lit.int .i64 (xs k)).wf = true := by
  by_cases h0 : 0 < len
  · obtain ⟨B, off, ha, hB, hc⟩ := h.at_ h0 (by decide)
    have hx : ∀ k, ∃ x : Int, k < len → rows[k]? = some [.int .i64 x] ∧ (Lit.int .i64 x).wf = true := by
      intro k
      by_cases hk : k < len
      · obtain ⟨r, hr⟩ : ∃ r, rows[k]? = some r := ⟨_, List.getElem?_eq_getElem (by rw [h.1]; exact hk)⟩
        obtain ⟨x, _, rfl, hw, hf⟩ := fits_i (h.2.1 r (List.mem_of_getElem? hr))
        obtain rfl := fits_nil hf
        exact ⟨x, fun _ => ⟨hr, hw⟩⟩
      · exact ⟨0, fun h => absurd h hk⟩
    refine ⟨fun k => (hx k).choose, B, off, fun _ => ⟨ha, hB⟩, fun k hk => ?_⟩
    obtain ⟨h1, h2⟩ := (hx k).choose_spec hk
    have h3 := hc k _ h1 0 _ rfl
    simp only [List.length_cons, List.length_nil, Nat.zero_add, Nat.mul_one, Nat.add_zero] at h3
    exact ⟨h3, h2⟩
  · exact ⟨fun _ => 0, 0, 0, fun h => absurd h h0, fun k hk => by omega⟩
theorem Lay.free1 {room : Nat} {R : Nat → List Nat} {n : Nat} : FreeN 1 room R n ↔ n < room ∧ n ∉ R 0 := by
  constructor
  · rintro ⟨h1, h2⟩; exact ⟨h1, h2 0 (by omega)⟩
  · rintro ⟨h1, h2⟩; exact ⟨h1, fun r hr => by rw [show r = 0 by omega]; exact h2⟩
end Go.Proofs.Ytiiflgihjnlmcaa
