/- Plan: entries and hits; may an entry be here (the code's may, the document's May). No condition. -/
import Derived.Test.YtilngakgofjmpaaJ1
import Derived.Test.YtilngakgofjmpaaRows
namespace Go.Proofs.Ytilngakgofjmpaa
set_option linter.unusedVariables false
set_option linter.unusedSimpArgs false
open Go.RowKit

/-- A hit: number, price, quantity, own. -/
structure HitR where
  i : Int
  p : Int
  q : Int
  o : Bool
def hitC (l : List HitR) : List Value := l.flatMap fun h => [.int .i64 h.i, .int .i64 h.p, .int .i64 h.q, .bool h.o]
theorem hitC_append (l m : List HitR) : hitC (l ++ m) = hitC l ++ hitC m := by simp [hitC]
theorem hitC_length (l : List HitR) : (hitC l).length = l.length * 4 := by
  induction l with
  | nil => rfl
  | cons x t ih =>
    have : hitC (x :: t) = [.int .i64 x.i, .int .i64 x.p, .int .i64 x.q, .bool x.o] ++ hitC t := rfl
    rw [this, List.length_append, ih]; simp; omega
/-- An entry. -/
structure EnR where
  c : Int
  k : Int
  s : Int
  p : Int
  q : Int
def enV (e : EnR) : Value := .agg #[.int .i64 e.c, .int .u8 e.k, .int .u8 e.s, .int .i64 e.p, .int .i64 e.q]
/-- May an entry be here? -/
def mayE (e : EnR) : Bool := decide ((1 ≤ e.k ∧ e.k ≤ 5) ∧ (if e.k = 2 then e.p = 0 else 1 ≤ e.p ∧ e.p ≤ 1000000000) ∧ (e.s = 1 ∨ e.s = 2) ∧ (1 ≤ e.c ∧ e.c ≤ 8) ∧ 1 ≤ e.q ∧ e.q ≤ 1000000000)

end Go.Proofs.Ytilngakgofjmpaa
