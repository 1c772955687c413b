/- The document's book: New. No condition. -/
import Derived.Test.YtilngakgofjmpaaR6g
namespace Go.Proofs.Ytilngakgofjmpaa
set_option linter.unusedVariables false
set_option linter.unusedSimpArgs false
open Go.RowKit Go.Shelf
open Od (OrdR)


/-- What New hands back. -/
def R6New (w : World) (most room : Nat) (e : Ending) (w' : World) : Prop :=
  ∃ r T, e = .returned (.tuple #[.pointer (some ⟨r, 0, none⟩), .int .i64 0]) ∧ R6 w' r T most room (fun _ => []) ∧ Only (fun _ => False) w w' ∧ ∀ i, T i → w.heap.size ≤ i
set_option maxRecDepth 100000 in
theorem r6_new (w : World) (room most : Nat) (hr : room ≤ 256) (hm : most ≤ 128) :
    Calls Try.prog 35 #[.int .i64 room, .int .i64 most] w (R6New w most room) := by
  have t1 : decide ((room : Int) < 0) = false := by simp
  have t2 : decide (256 < room) = false := by simp; omega
  have t2' : decide ((256 : Int) < (room : Int)) = false := by simp; omega
  have t3 : decide ((most : Int) < 0) = false := by simp
  have t4 : decide (128 < most) = false := by simp; omega
  have t4' : decide ((128 : Int) < (most : Int)) = false := by simp; omega
  go_enter Try.func35, Try.ntmps35
  go_wp2_with fail
  go_returns
  have hcell : ∀ o v, (#[.int .i64 (room : Int), .int .i64 (most : Int), .slice none 0 0, .slice none 0 0] : Array Value)[o]? = some v → Cell (w.alloc (.cells #[.int .i64 (room : Int), .int .i64 (most : Int), .slice none 0 0, .slice none 0 0] 162)) w.heap.size o v := fun o v hv => Cell.new hv
  refine ⟨w.heap.size, _, rfl, ⟨fun _ => .slice none 0 0, ⟨hcell 0 _ rfl, hcell 1 _ rfl, hcell 2 _ rfl, hcell 3 _ rfl, fun q => World.ownsRow_nil _ _ _ _, fun q g hg => (by cases hg), fun g hg => (by cases hg)⟩, rfl⟩, (Only.refl _ _).alloc _, fun i hi => ?_⟩
  rcases hi with rfl | ⟨q, hi⟩
  · exact Nat.le_refl _
  · cases hi
end Go.Proofs.Ytilngakgofjmpaa
