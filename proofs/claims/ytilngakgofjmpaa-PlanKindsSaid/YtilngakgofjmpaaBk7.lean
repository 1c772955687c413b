/- The book's orders as a list (the law's Orders). Conditions: a book as its New lays it. -/
import Derived.Test.YtilngakgofjmpaaBk6
namespace Go.Proofs.Ytilngakgofjmpaa
set_option linter.unusedVariables false
set_option linter.unusedSimpArgs false
open Go.RowKit Go.Shelf
open Od (OrdR Lay FreeN Blk4)
attribute [local go_sem] Oper.semAt_some

/-- The cells of a list of orders. -/
def ordC (l : List OrdR) : List Value := l.flatMap fun o => [.int .i64 o.i, .int .i64 o.c, .int .u8 o.s, .int .i64 o.p, .int .i64 o.q]
theorem ordC_append (l m : List OrdR) : ordC (l ++ m) = ordC l ++ ordC m := by simp [ordC]
theorem ordC_length (l : List OrdR) : (ordC l).length = l.length * 5 := by
  induction l with
  | nil => rfl
  | cons x t ih => simp only [ordC, List.flatMap_cons, List.length_append, List.length_cons, List.length_nil] at ih ⊢; omega
theorem Try.infoOrder : (Try.prog.info? 54).map (fun i => (i.zero, i.size, i.bytes)) = some (some (.agg #[.int .i64 0, .int .i64 0, .int .u8 0, .int .i64 0, .int .i64 0]), 5, 40) := by kernel_rfl
theorem cell_five_new (w : World) (x0 x1 x2 x3 x4 : Value) (t : TypeId) : ∀ j u, [x0, x1, x2, x3, x4][j]? = some u → (w.alloc (.cells #[x0, x1, x2, x3, x4] t)).cell? ((⟨w.heap.size, 0, none⟩ : Addr).add j) = some u := by
  intro j u h
  rw [show (⟨w.heap.size, 0, none⟩ : Addr).add j = ⟨w.heap.size, j, none⟩ by unfold Addr.add; split <;> simp_all]
  exact (Cell.new (cs := #[x0, x1, x2, x3, x4]) (by simpa using h)).cell

/-- The caller's blocks while a list grows: its box, its row. -/
def TL (B : Nat) (v : Value) (i : Nat) : Prop := i = B ∨ v.ownBlock = some i
/-- What has been gathered lies there. -/
structure Gath (w Wc : World) (B4 B5 : Nat) (s : List OrdR) (T : Nat → Prop) (A : World) : Prop where
  val : ∃ v, T = TL B5 v ∧ Cell A B5 0 v ∧ A.ownsRow Wc.heap.size 54 5 v s.length (ordC s)
  res : Cell A B4 0 (.slice none 0 0)
  only : Only (fun _ => False) w A
  len : s.length ≤ 256

/-- What Orders hands back. -/
def ListPost (w : World) (l : List OrdR) (e : Ending) (w' : World) : Prop := ∃ v, e = .returned v ∧ w'.ownsRow w.heap.size 54 5 v l.length (ordC l) ∧ Only (fun _ => False) w w'

theorem ownsRow_base {w : World} {b b' : Nat} {e : TypeId} {size : Nat} {v : Value} {n : Nat} {xs : List Value} (h : w.ownsRow b e size v n xs) (hb : b' ≤ b) : w.ownsRow b' e size v n xs := by
  refine ⟨h.1, ?_⟩
  rcases h.2 with hn | ⟨g, cap, cur, e', h1, r⟩
  · exact .inl hn
  · exact .inr ⟨g, cap, cur, e', Nat.le_trans hb h1, r⟩
theorem ownsRow_apart {w w' : World} {S : Nat → Prop} {base : Nat} {e : TypeId} {size : Nat} {v : Value} {n : Nat} {xs : List Value} (h : w.ownsRow base e size v n xs) (k : Only S w w') (hS : ∀ i, v.ownBlock = some i → ¬ S i) : w'.ownsRow base e size v n xs := by
  refine ⟨h.1, ?_⟩
  rcases h.2 with hn | ⟨g, cap, cur, rfl, hb, hgg, rest⟩
  · exact .inl hn
  · exact .inr ⟨g, cap, cur, rfl, hb, (k.block g (Array.getElem?_eq_some_iff.1 hgg).1 (hS g rfl)).trans hgg, rest⟩

section
variable {w : World} {b : Nat} {bs gu : Bool → Nat} {hv : Bool → Value} {ba gl gr gf bm most room : Nat} {L : Bool → List (Int × Nat)} {R : Nat → List Nat} {V : Nat → OrdR} {F : Int → Option Int} {l : Bool → List OrdR}

end
end Go.Proofs.Ytilngakgofjmpaa
