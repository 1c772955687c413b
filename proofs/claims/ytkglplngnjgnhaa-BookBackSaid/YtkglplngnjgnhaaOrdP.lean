/- Slots, the plain side: an arena as numbers: links, rows, and a heap of free numbers. No condition. -/
import Derived.RowKit
namespace Go.Proofs.Ytkglplngnjgnhaa
set_option linter.unusedVariables false
set_option linter.unusedSimpArgs false
namespace Od
open Go.RowKit

def upd {α : Type} (f : Nat → α) (k : Nat) (v : α) : Nat → α := fun i => if i = k then v else f i
def swp {α : Type} (f : Nat → α) (i k : Nat) : Nat → α := upd (upd f i (f k)) k (f i)
theorem upd_same {α : Type} (f : Nat → α) (k : Nat) (v : α) : upd f k v k = v := if_pos rfl
theorem upd_other {α : Type} {f : Nat → α} {k i : Nat} {v : α} (h : i ≠ k) : upd f k v i = f i := if_neg h

/-- A number goes up the heap. -/
def siftUp : Nat → (Nat → Int) → Nat → (Nat → Int)
  | 0, f, _ => f
  | n + 1, f, i => if i = 0 then f else if f ((i - 1) / 2) < f i then f else siftUp n (swp f ((i - 1) / 2) i) ((i - 1) / 2)
/-- The lesser one of two below, if there are two. -/
def down (f : Nat → Int) (i e : Nat) : Nat := if 2 * i + 2 < e ∧ f (2 * i + 2) < f (2 * i + 1) then 2 * i + 2 else 2 * i + 1
/-- A number goes down the heap. -/
def siftDown : Nat → (Nat → Int) → Nat → Nat → (Nat → Int)
  | 0, f, _, _ => f
  | n + 1, f, i, e => if e ≤ down f i e ∨ f i < f (down f i e) then f else siftDown n (swp f i (down f i e)) (down f i e) e

theorem siftUp_more : ∀ (n m : Nat) (f : Nat → Int) (i : Nat), i < n → i < m → siftUp n f i = siftUp m f i := by
  intro n
  induction n with
  | zero => intro m f i h; omega
  | succ n ih =>
    intro m f i h hm
    cases m with
    | zero => omega
    | succ m =>
      simp only [siftUp]
      by_cases h0 : i = 0
      · rw [if_pos h0, if_pos h0]
      · rw [if_neg h0, if_neg h0]
        split
        · rfl
        · exact ih m _ _ (by omega) (by omega)
theorem down_lt (f : Nat → Int) (i e : Nat) : i < down f i e ∧ down f i e ≤ 2 * i + 2 := by unfold down; split <;> omega
theorem siftDown_more : ∀ (n m : Nat) (f : Nat → Int) (i e : Nat), e ≤ i + n → e ≤ i + m → 0 < n → 0 < m → siftDown n f i e = siftDown m f i e := by
  intro n
  induction n with
  | zero => intro m f i e _ _ h; omega
  | succ n ih =>
    intro m f i e h hm _ h0
    cases m with
    | zero => omega
    | succ m =>
      simp only [siftDown]
      have := down_lt f i e
      by_cases hc : e ≤ down f i e ∨ f i < f (down f i e)
      · rw [if_pos hc, if_pos hc]
      · rw [if_neg hc, if_neg hc]
        exact ih m _ _ _ (by omega) (by omega) (by omega) (by omega)

/-- An arena in memory: the blocks of its links, rows and free numbers; how many links and rows it has, how many numbers are free; of each link the thing, the row, the one ahead, the one behind; of each row the first, the last, how many; the heap. -/
structure Ar where
  gl : Nat
  gr : Nat
  gf : Nat
  room : Nat
  nr : Nat
  nf : Nat
  th : Nat → Value
  ro : Nat → Int
  ah : Nat → Int
  fa : Nat → Int
  rf : Nat → Int
  rl : Nat → Int
  rn : Nat → Int
  fr : Nat → Int

def Ar.give (A : Ar) (n : Int) : Ar := { A with nf := A.nf + 1, fr := siftUp (A.nf + 1) (upd A.fr A.nf n) A.nf }
def Ar.least (A : Ar) : Ar := { A with nf := A.nf - 1, fr := siftDown A.nf (upd A.fr 0 (A.fr (A.nf - 1))) 0 (A.nf - 1) }
end Od
end Go.Proofs.Ytkglplngnjgnhaa
