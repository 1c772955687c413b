/- The book: Open. Conditions: a book as its New lays it. -/
import Derived.Test.YtilngakgofjmpaaBkF
namespace Go.Proofs.Ytilngakgofjmpaa
set_option linter.unusedVariables false
set_option linter.unusedSimpArgs false
open Go.RowKit Go.Shelf
open Od (OrdR Lay FreeN Blk4)
attribute [local go_sem] Oper.semAt_some

/-- A client's orders, how many, how many lots. -/
def ofC (c : Int) (l : List OrdR) : List OrdR := l.filter fun o => decide (o.c = c)
def cntC (c : Int) (l : List OrdR) : Int := ((ofC c l).length : Nat)
def lotC (c : Int) (l : List OrdR) : Int := sumQ (ofC c l)

/-- What is counted so far. -/
structure OpI (Wc : World) (B4 B5 : Nat) (c n0 q0 : Int) (s : List OrdR) (T : Nat → Prop) (A : World) : Prop where
  t : T = fun i => i = B4 ∨ i = B5
  c4 : Cell A B4 0 (.int .i64 (n0 + cntC c s))
  c5 : Cell A B5 0 (.int .i64 (q0 + lotC c s))
  only : Only (fun i => i = B4 ∨ i = B5) Wc A
/-- What Open hands back. -/
def openV (l : Bool → List OrdR) (c : Int) : Value := .tuple #[.int .i64 (cntC c (l false) + cntC c (l true)), .int .i64 (lotC c (l false) + lotC c (l true))]

end Go.Proofs.Ytilngakgofjmpaa
