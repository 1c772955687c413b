/- Decimal: plain functions of texts (lists of bytes), and their laws. No condition. -/
import Derived.Lib.Strings
import Derived.Lib.SlTrimSet
import Derived.Lib.Repeat
import Derived.Lib.ItoaNum
namespace Go.Proofs.YtkpndnjnckaanaaDoor
set_option linter.unusedVariables false
set_option linter.unusedSimpArgs false

def isD (b : UInt8) : Bool := decide (48 ≤ b.toNat ∧ b.toNat ≤ 57)
theorem isD_contains (b : UInt8) : ([48, 49, 50, 51, 52, 53, 54, 55, 56, 57] : List UInt8).contains b = isD b := by
  have e : ∀ k : UInt8, (b == k) = decide (b.toNat = k.toNat) := fun k => by
    by_cases h : b = k
    · subst h; simp
    · have : ¬ b.toNat = k.toNat := fun h' => h (UInt8.toNat_inj.1 h')
      rw [decide_eq_false this]; simpa using h
  simp only [List.contains_cons, List.contains_nil, e, Bool.or_false, isD]
  show (decide (b.toNat = 48) || (decide (b.toNat = 49) || (decide (b.toNat = 50) || (decide (b.toNat = 51) || (decide (b.toNat = 52) || (decide (b.toNat = 53) || (decide (b.toNat = 54) || (decide (b.toNat = 55) || (decide (b.toNat = 56) || decide (b.toNat = 57)))))))))) = _
  simp only [← Bool.decide_or]
  exact decide_eq_decide.2 (by omega)
/-- How many digits it begins with. -/
def dg (l : List UInt8) : Nat := (l.takeWhile isD).length
theorem dg_le (l : List UInt8) : dg l ≤ l.length := by
  unfold dg
  exact (List.takeWhile_prefix isD).length_le
theorem dg_drop (l : List UInt8) : (Lib.trimLeftS l [48, 49, 50, 51, 52, 53, 54, 55, 56, 57]).length = l.length - dg l := by
  unfold Lib.trimLeftS dg
  rw [show (fun x => ([48, 49, 50, 51, 52, 53, 54, 55, 56, 57] : List UInt8).contains x) = isD from funext isD_contains]
  have h := congrArg List.length (List.takeWhile_append_dropWhile (p := isD) (l := l))
  rw [List.length_append] at h
  omega
theorem dg_all : ∀ {A : List UInt8}, (∀ b ∈ A, isD b = true) → dg A = A.length
  | [], _ => rfl
  | b :: t, h => by
    unfold dg
    rw [List.takeWhile_cons_of_pos (h b (by simp)), List.length_cons, List.length_cons]
    exact congrArg (· + 1) (dg_all (A := t) fun x hx => h x (by simp [hx]))
theorem dg_app {A B : List UInt8} (hA : ∀ b ∈ A, isD b = true) : dg (A ++ B) = A.length + dg B := by
  induction A with
  | nil => simp
  | cons b t ih =>
    unfold dg at ih ⊢
    rw [List.cons_append, List.takeWhile_cons_of_pos (hA b (by simp)), List.length_cons, List.length_cons, ih fun x hx => hA x (by simp [hx])]
    omega
theorem dg_zero {B : List UInt8} (h : B.head?.map isD ≠ some true) : dg B = 0 := by
  cases B with
  | nil => rfl
  | cons b t =>
    unfold dg
    rw [List.takeWhile_cons_of_neg (by simpa using h)]
    rfl
theorem dg_take : ∀ (j : Nat) (l : List UInt8), dg (l.take j) = min j (dg l)
  | 0, l => by simp [dg]
  | j + 1, [] => by simp [dg]
  | j + 1, b :: t => by
    have ih := dg_take j t
    unfold dg at ih ⊢
    rw [List.take_succ_cons]
    by_cases hb : isD b = true
    · rw [List.takeWhile_cons_of_pos hb, List.takeWhile_cons_of_pos hb, List.length_cons, List.length_cons, ih]
      omega
    · rw [List.takeWhile_cons_of_neg hb, List.takeWhile_cons_of_neg hb]
      simp
theorem dg_digits (l : List UInt8) : ∀ b ∈ l.take (dg l), isD b = true := by
  induction l with
  | nil => intro b hb; simp at hb
  | cons x t ih =>
    intro b hb
    by_cases hx : isD x = true
    · have hd1 : dg (x :: t) = dg t + 1 := by unfold dg; rw [List.takeWhile_cons_of_pos hx]; rfl
      rw [hd1, List.take_succ_cons] at hb
      rcases List.mem_cons.1 hb with rfl | hb
      · exact hx
      · exact ih b hb
    · have hd1 : dg (x :: t) = 0 := by unfold dg; rw [List.takeWhile_cons_of_neg hx]; rfl
      rw [hd1] at hb; simp at hb
def minusOf : List UInt8 → Bool
  | b :: _ => b == 45
  | [] => false
def restOf (s : List UInt8) : List UInt8 := if minusOf s then s.tail else s
def ahd (s : List UInt8) : Nat := if minusOf s then 1 else 0
theorem has_minus (s : List UInt8) : Lib.hasPrefix s [45] = minusOf s := by
  unfold Lib.hasPrefix minusOf
  cases s with
  | nil => rfl
  | cons b t =>
    simp only [List.isPrefixOf, Bool.and_true]
    by_cases h : b = 45
    · subst h; rfl
    · rw [beq_eq_false_iff_ne.2 h, beq_eq_false_iff_ne.2 (fun h' => h h'.symm)]
theorem trim_minus (s : List UInt8) : Lib.trimPrefix s [45] = restOf s := by
  unfold Lib.trimPrefix restOf
  rw [has_minus]
  simp [List.drop_one]
theorem ahd_len (s : List UInt8) : (s.length : Int) - ((restOf s).length : Int) = (ahd s : Nat) := by
  unfold restOf ahd
  cases h : minusOf s with
  | false => simp
  | true =>
    cases s with
    | nil => simp [minusOf] at h
    | cons b t => simp; omega
/-- How long the part ahead of the point is. -/
def nOf (r : List UInt8) : Nat := if r.head? = some 48 then 1 else dg r
/-- Where a text (its sign away) goes wrong. -/
def wrongR (r : List UInt8) (p : Nat) : Option Nat :=
  if dg r = 0 then some 0
  else if r.drop (nOf r) = [] then none
  else if p = 0 ∨ (r.drop (nOf r)).head? ≠ some 46 then some (nOf r)
  else if min (dg (r.drop (nOf r)).tail) p = 0 ∨ min (dg (r.drop (nOf r)).tail) p + 1 < (r.drop (nOf r)).length then some (nOf r + 1 + min (dg (r.drop (nOf r)).tail) p)
  else none
def wrongC (s : List UInt8) (p : Nat) : Option Nat := (wrongR (restOf s) p).map (ahd s + ·)
def digR (r : List UInt8) (p : Nat) : List UInt8 := r.take (nOf r) ++ (r.drop (nOf r)).tail ++ List.replicate (p - (r.drop (nOf r)).tail.length) 48
def valD (l : List UInt8) : Nat := l.foldl (fun a b => 10 * a + (b.toNat - 48)) 0
def sgnV (m : Bool) (v : Nat) : Int := if m then -(v : Int) else v
def fits64 (v : Int) : Bool := decide (-9223372036854775808 ≤ v ∧ v ≤ 9223372036854775807)
/-- What Parse answers: the number, the error, the place. -/
def parseC (s : List UInt8) (p : Nat) : Int × Int × Int :=
  match wrongC s p with
  | some a => (0, 20, (a : Int))
  | none => if fits64 (sgnV (minusOf s) (valD (digR (restOf s) p))) then (sgnV (minusOf s) (valD (digR (restOf s) p)), 0, 0) else (0, 21, 0)
def parseI (s : List UInt8) (p : Int) : Int × Int × Int := if 0 ≤ p ∧ p ≤ 9 then parseC s p.toNat else (0, 1, 0)

/-- A text's part ahead of the point. -/
structure Whl (A B : List UInt8) : Prop where
  ne : A ≠ []
  dig : ∀ b ∈ A, isD b = true
  one : A.head? = some 48 → A.length = 1
  far : A.head? ≠ some 48 → B.head?.map isD ≠ some true
theorem Whl.nOf {A B : List UInt8} (h : Whl A B) : Go.Proofs.YtkpndnjnckaanaaDoor.nOf (A ++ B) = A.length ∧ dg (A ++ B) ≠ 0 := by
  obtain ⟨hne, hd, h1, h2⟩ := h
  have hh : (A ++ B).head? = A.head? := by
    cases A with
    | nil => exact absurd rfl hne
    | cons b t => rfl
  have hl : 0 < A.length := List.length_pos_iff.2 hne
  have hdg := dg_app (B := B) hd
  refine ⟨?_, by omega⟩
  unfold Go.Proofs.YtkpndnjnckaanaaDoor.nOf
  rw [hh]
  split
  · rename_i h; exact (h1 h).symm
  · rename_i h
    rw [hdg, dg_zero (h2 h)]; rfl
theorem Whl.wrong {A B : List UInt8} (h : Whl A B) (p : Nat) : wrongR (A ++ B) p = if B = [] then none else if p = 0 ∨ B.head? ≠ some 46 then some A.length else if min (dg B.tail) p = 0 ∨ min (dg B.tail) p + 1 < B.length then some (A.length + 1 + min (dg B.tail) p) else none := by
  obtain ⟨h1, h2⟩ := h.nOf
  unfold wrongR
  rw [if_neg h2, h1, List.drop_left]
theorem Whl.digs {A B : List UInt8} (h : Whl A B) (p : Nat) : digR (A ++ B) p = A ++ B.tail ++ List.replicate (p - B.tail.length) 48 := by
  obtain ⟨h1, h2⟩ := h.nOf
  unfold digR
  rw [h1, List.drop_left, List.take_left]
theorem whl_of {r : List UInt8} (h : dg r ≠ 0) : Whl (r.take (nOf r)) (r.drop (nOf r)) := by
  cases r with
  | nil => simp [dg] at h
  | cons b t =>
    have hb : isD b = true := Classical.byContradiction fun hn => h (by unfold dg; rw [List.takeWhile_cons_of_neg hn]; rfl)
    unfold nOf
    by_cases h0 : (b :: t).head? = some 48
    · rw [if_pos h0]
      exact ⟨by simp, fun x hx => by simp at hx; subst hx; exact hb, fun _ => by simp, fun hh => absurd (by simpa using h0) (by simpa using hh)⟩
    · rw [if_neg h0]
      have hd1 : dg (b :: t) = dg t + 1 := by unfold dg; rw [List.takeWhile_cons_of_pos hb]; rfl
      have hle := dg_le (b :: t)
      have hhd : ((b :: t).take (dg (b :: t))).head? = some b := by rw [hd1]; rfl
      refine ⟨by rw [hd1]; simp, dg_digits _, fun hh => absurd (by rw [hhd] at hh; exact hh) h0, fun _ => ?_⟩
      have hdw : (b :: t).drop (dg (b :: t)) = (b :: t).dropWhile isD := by
        have e := List.takeWhile_append_dropWhile (p := isD) (l := b :: t)
        have e2 := List.take_append_drop (dg (b :: t)) (b :: t)
        have e3 : (b :: t).take (dg (b :: t)) = (b :: t).takeWhile isD := (List.prefix_iff_eq_take.1 (List.takeWhile_prefix isD)).symm
        rw [e3] at e2
        exact List.append_cancel_left (e2.trans e.symm)
      rw [hdw]
      intro hx
      cases hq : (b :: t).dropWhile isD with
      | nil => rw [hq] at hx; simp at hx
      | cons y ys =>
        rw [hq] at hx
        have := List.head?_dropWhile_not isD (b :: t)
        rw [hq] at this
        simp at this hx
        rw [this] at hx; cases hx
end Go.Proofs.YtkpndnjnckaanaaDoor
