/- SnapParts: what comes in, and the plain laws. No condition. -/
import Derived.Test.YtiiflgihjnlmcaaSnap7
import Derived.Test.YtiiflgihjnlmcaaFlat2
namespace Go.Proofs.Ytiiflgihjnlmcaa
set_option linter.unusedVariables false
set_option linter.unusedSimpArgs false
open Go.RowKit Go.ChangeShapes Go.WideShapes Go.ChangeAt

def toF : List Value → Int × Int × Int
  | [.int _ k, .int _ a, .int _ b] => (k, a, b)
  | _ => (0, 0, 0)

theorem row_feed {r : List Value} (h : Fits [.i .u8, .i .i64, .i .i64] r) : r = [.int .u8 (toF r).1, .int .i64 (toF r).2.1, .int .i64 (toF r).2.2] ∧ FeedOk (toF r) := by
  obtain ⟨k, _, rfl, w0, h⟩ := fits_i h
  obtain ⟨a, _, rfl, w1, h⟩ := fits_i h
  obtain ⟨b, _, rfl, w2, h⟩ := fits_i h
  obtain rfl := fits_nil h
  have b1 := bounds_i64 w1
  have b2 := bounds_i64 w2
  have b0 : 0 ≤ k ∧ k ≤ 255 := by
    simp [Lit.wf, IntKind.min, IntKind.max, IntKind.signed, IntKind.bits] at w0
    omega
  exact ⟨rfl, b0, ⟨by show _ ≤ a; omega, by show a ≤ _; omega⟩, ⟨by show _ ≤ b; omega, by show b ≤ _; omega⟩⟩

theorem feedV_rows {rows : List (List Value)} (h : ∀ r ∈ rows, Fits [.i .u8, .i .i64, .i .i64] r) : feedV (rows.map toF) = rows.flatten := by
  induction rows with
  | nil => rfl
  | cons r t ih =>
    have h1 := (row_feed (h r (by simp))).1
    have h2 := ih fun x hx => h x (by simp [hx])
    simp only [feedV, List.map_cons, List.flatMap_cons, List.flatten_cons] at h2 ⊢
    rw [h2, ← h1]
theorem feedV_append (l m : List (Int × Int × Int)) : feedV (l ++ m) = feedV l ++ feedV m := by simp [feedV]
theorem feedV_length (l : List (Int × Int × Int)) : (feedV l).length = l.length * 3 := by
  induction l with
  | nil => rfl
  | cons x t ih => simp only [feedV, List.flatMap_cons, List.length_append, List.length_cons, List.length_nil] at ih ⊢; omega
theorem feedV_one (l : List (Int × Int × Int)) : ∀ u ∈ feedV l, u.oneCell' = true := by
  intro u hu
  simp only [feedV, List.mem_flatMap] at hu
  obtain ⟨x, _, hx⟩ := hu
  simp at hx
  rcases hx with rfl | rfl | rfl <;> rfl
/-- Which cell it is. -/
theorem feedV_split {l : List (Int × Int × Int)} {j : Nat} {u : Value} (h : (feedV l)[j]? = some u) : ∃ i x r, j = i * 3 + r ∧ r < 3 ∧ l[i]? = some x ∧ [Value.int .u8 x.1, .int .i64 x.2.1, .int .i64 x.2.2][r]? = some u := by
  have hlt : j < (feedV l).length := (List.getElem?_eq_some_iff.1 h).1
  rw [feedV_length] at hlt
  have hi : j / 3 < l.length := by omega
  refine ⟨j / 3, l[j / 3], j % 3, by omega, by omega, List.getElem?_eq_getElem hi, ?_⟩
  obtain ⟨h1, h2, h3⟩ := feedV_at (xs := l) (i := j / 3) (List.getElem?_eq_getElem hi)
  have hj : j = j / 3 * 3 + j % 3 := by omega
  have h4 : j % 3 = 0 ∨ j % 3 = 1 ∨ j % 3 = 2 := by omega
  rw [hj] at h
  rcases h4 with e | e | e
  · rw [e] at h ⊢; rw [Nat.add_zero, h1] at h; exact h
  · rw [e] at h ⊢; rw [h2] at h; exact h
  · rw [e] at h ⊢; rw [h3] at h; exact h

/-- The cells that are appended. -/
def NewsIn (w : World) (a : Option Addr) (n cap : Nat) (xs : List (Int × Int × Int)) : Prop :=
  (a = none ∧ n = 0 ∧ cap = 0) ∨ ∃ ad, a = some ad ∧ ∀ j u, (feedV xs)[j]? = some u → w.cell? (ad.add j) = some u

theorem feeds_in {w : World} {a : Option Addr} {len cap : Nat} {rows : List (List Value)} (hs : SliceIn w a len cap [.i .u8, .i .i64, .i .i64] rows) :
    ∃ xs : List (Int × Int × Int), xs.length = len ∧ (∀ x ∈ xs, FeedOk x) ∧ FeedsAt w a xs ∧ NewsIn w a len cap xs := by
  have hf := hs.2.1
  refine ⟨rows.map toF, by rw [List.length_map]; exact hs.1, fun x hx => ?_, fun i x hx => ?_, ?_⟩
  · obtain ⟨r, hr, rfl⟩ := List.mem_map.1 hx
    exact (row_feed (hf r hr)).2
  · rw [List.getElem?_map, Option.map_eq_some_iff] at hx
    obtain ⟨r, hr, rfl⟩ := hx
    have hil : i < rows.length := (List.getElem?_eq_some_iff.1 hr).1
    obtain ⟨B, off, ha, _, hc⟩ := hs.at_ (by have := hs.1; omega) (by decide)
    have h1 := (row_feed (hf r (List.mem_of_getElem? hr))).1
    refine ⟨B, off, ha, ?_, ?_, ?_⟩
    · have := hc i r hr 0 (.int .u8 (toF r).1) (by rw [h1]; rfl); simpa using this
    · have := hc i r hr 1 (.int .i64 (toF r).2.1) (by rw [h1]; rfl); simpa using this
    · have := hc i r hr 2 (.int .i64 (toF r).2.2) (by rw [h1]; rfl); simpa using this
  · rcases hs.2.2 with h | ⟨x, ha, _, _, hc⟩
    · exact .inl h
    · refine .inr ⟨x, ha, fun j u hu => ?_⟩
      obtain ⟨i, y, r, rfl, hr, hy, hu⟩ := feedV_split hu
      rw [List.getElem?_map, Option.map_eq_some_iff] at hy
      obtain ⟨row, hrow, rfl⟩ := hy
      have h1 := (row_feed (hf row (List.mem_of_getElem? hrow))).1
      rw [← h1] at hu
      exact hc i row hrow r u hu
theorem NewsIn.only {w w' : World} {a : Option Addr} {n cap : Nat} {xs : List (Int × Int × Int)} (h : NewsIn w a n cap xs) (ho : Only (fun _ => False) w w') : NewsIn w' a n cap xs := by
  rcases h with h | ⟨ad, ha, hc⟩
  · exact .inl h
  · refine .inr ⟨ad, ha, fun j u hu => ?_⟩
    have := hc j u hu
    exact (World.cell?_of_block (w := w) (ho.block _ (World.block_lt_of_cell? w _ this) id)).trans this

/-! The masks. -/
theorem maskN_parts (f g h : Nat → Int) : ∀ k, k ≤ 7 → ∀ i, (maskN f h k).testBit i = true → (maskN f g k).testBit i = true ∨ (maskN g h k).testBit i = true := by
  have hb : ∀ (f g : Nat → Int) k i, (maskN f g k).testBit i = decide (i < k ∧ f i ≠ g i) := by
    intro f g k
    induction k with
    | zero => intro i; simp [maskN]
    | succ k ih =>
      intro i
      have hlt := maskN_lt f g k
      simp only [maskN]
      by_cases e : f k = g k
      · rw [if_pos e, ih]
        by_cases ei : i = k
        · subst ei; simp [e]
        · have : (i < k ∧ f i ≠ g i) ↔ (i < k + 1 ∧ f i ≠ g i) := by omega
          simp only [this]
      · rw [if_neg e, Nat.add_comm]
        by_cases ei : i = k
        · subst ei
          rw [Nat.testBit_two_pow_add_eq, ih]
          simp [e]
        · rcases Nat.lt_or_ge i k with hik | hik
          · rw [Nat.testBit_two_pow_add_gt hik, ih]
            have : (i < k ∧ f i ≠ g i) ↔ (i < k + 1 ∧ f i ≠ g i) := by omega
            simp only [this]
          · have h2 : 2 ^ k + maskN f g k < 2 ^ i := by
              have : 2 ^ (k + 1) ≤ 2 ^ i := Nat.pow_le_pow_right (by decide) (by omega)
              rw [Nat.pow_succ] at this; omega
            rw [Nat.testBit_lt_two_pow h2]
            symm; simp; omega
  intro k hk i hi
  rw [hb] at hi
  rw [hb, hb]
  simp only [decide_eq_true_eq] at hi ⊢
  by_cases e : f i = g i
  · right; exact ⟨hi.1, fun e2 => hi.2 (e.trans e2)⟩
  · left; exact ⟨hi.1, e⟩
theorem bits_or_nat (a b : Nat) (ha : a < 65536) (hb : b < 65536) : bits .or .u16 a b = ((a ||| b : Nat) : Int) := by
  have e : ((BitVec.ofNat 16 a ||| BitVec.ofNat 16 b : BitVec 16).toNat) = a ||| b := by
    rw [BitVec.toNat_or, BitVec.toNat_ofNat, BitVec.toNat_ofNat, Nat.mod_eq_of_lt (by simpa using ha), Nat.mod_eq_of_lt (by simpa using hb)]
  have hlt : a ||| b < 2 ^ 16 := Nat.or_lt_two_pow (by simpa using ha) (by simpa using hb)
  show IntKind.u16.wrap (((BitVec.ofInt 16 (a : Int) ||| BitVec.ofInt 16 (b : Int) : BitVec 16).toNat : Nat) : Int) = _
  rw [BitVec.ofInt_natCast, BitVec.ofInt_natCast, e, IntKind.wrap_u16]
  omega
theorem bits_andNot_zero (m n k : Nat) (hm : m < 65536) (hn : n < 65536) (hk : k < 65536) (h : ∀ i, m.testBit i = true → n.testBit i = true ∨ k.testBit i = true) : bits .andNot .u16 m (bits .or .u16 n k) = 0 := by
  rw [bits_or_nat n k hn hk]
  have ho : n ||| k < 2 ^ 16 := Nat.or_lt_two_pow (by simpa using hn) (by simpa using hk)
  show IntKind.u16.wrap (((BitVec.ofInt 16 (m : Int) &&& ~~~BitVec.ofInt 16 ((n ||| k : Nat) : Int) : BitVec 16).toNat : Nat) : Int) = _
  rw [BitVec.ofInt_natCast, BitVec.ofInt_natCast]
  have : (BitVec.ofNat 16 m &&& ~~~BitVec.ofNat 16 (n ||| k)) = 0#16 := by
    apply BitVec.eq_of_getLsbD_eq
    intro i hi
    simp only [BitVec.getLsbD_and, BitVec.getLsbD_not, BitVec.getLsbD_ofNat, BitVec.getLsbD_zero, hi, decide_true, Bool.true_and]
    cases hmi : m.testBit i with
    | false => simp
    | true =>
      rcases h i hmi with e | e <;> simp [Nat.testBit_or, e]
  rw [this]
  rfl
theorem mask_parts (s u t : Sn) : bits .andNot .u16 (s.mask t : Nat) (bits .or .u16 (s.mask u : Nat) (u.mask t : Nat)) = 0 := by
  have lt : ∀ (f g : Nat → Int), maskN f g 7 < 65536 := fun f g => Nat.lt_of_lt_of_le (maskN_lt f g 7) (by decide)
  exact bits_andNot_zero _ _ _ (lt _ _) (lt _ _) (lt _ _) (maskN_parts s.seven u.seven t.seven 7 (Nat.le_refl _))

/-! The parts. -/
theorem foldP_append (s : Sn) (l m : List (Int × Int × Int)) : foldP s (l ++ m) = (foldP s l).bind fun u => foldP u m := by
  unfold foldP
  by_cases h0 : s.ok = true
  · rw [if_pos h0, if_pos h0, foldL_append]
    cases hl : foldL s l with
    | none => rfl
    | some u => simp only [Option.bind_some]; rw [if_pos (foldL_ok h0 hl)]
  · rw [if_neg h0, if_neg h0]; rfl
end Go.Proofs.Ytiiflgihjnlmcaa
