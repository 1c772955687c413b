/- The document's book: New. No condition. -/
import Derived.Test.YtilngakgofjmpaaR6g
namespace Go.Proofs.Ytilngakgofjmpaa
set_option linter.unusedVariables false
set_option linter.unusedSimpArgs false
open Go.RowKit Go.Shelf
open Od (OrdR)

set_option maxRecDepth 100000 in
theorem r6_new_no (w : World) (orders most : Int) (h : orders < 0 ∨ 256 < orders ∨ most < 0 ∨ 128 < most) :
    Calls Try.prog 35 #[.int .i64 orders, .int .i64 most] w fun e w' => e = .returned (.tuple #[.pointer none, .int .i64 1]) ∧ Only (fun _ => False) w w' := by
  by_cases h1 : orders < 0
  · have t1 : decide (orders < 0) = true := by simpa using h1
    clear h
    go_enter Try.func35, Try.ntmps35
    go_wp2_with fail
    go_returns
    exact ⟨rfl, by repeat' (first | (with_reducible exact Only.refl _ _) | (with_reducible assumption) | (refine Only.of_none ?_; with_reducible assumption) | (with_reducible refine Only.drewN ?_ _) | (with_reducible refine Only.drew ?_) | (with_reducible refine Only.alloc ?_ _) | (with_reducible refine Only.setCell ?_ ?_ _) | (with_reducible refine Only.then0 ?_ (by with_reducible assumption)) | (with_reducible refine Only.thenN ?_ (by with_reducible assumption) ?_) | (with_reducible refine Only.trans ?_ (by with_reducible assumption)) | (refine .inl ?_; first | rfl | (simp; done) | (simp [Ar.blk]; done)) | (refine .inr ?_; first | omega | (simp; done) | (simp; omega) | exact Only.size (by with_reducible assumption) | (refine Nat.le_trans (Only.size (by with_reducible assumption)) ?_; simp; done)))⟩
  · have t1 : decide (orders < 0) = false := by simpa using h1
    by_cases h2 : 256 < orders
    · have t2 : decide (256 < orders) = true := by simpa using h2
      clear h
      go_enter Try.func35, Try.ntmps35
      go_wp2_with fail
      go_returns
      exact ⟨rfl, by repeat' (first | (with_reducible exact Only.refl _ _) | (with_reducible assumption) | (refine Only.of_none ?_; with_reducible assumption) | (with_reducible refine Only.drewN ?_ _) | (with_reducible refine Only.drew ?_) | (with_reducible refine Only.alloc ?_ _) | (with_reducible refine Only.setCell ?_ ?_ _) | (with_reducible refine Only.then0 ?_ (by with_reducible assumption)) | (with_reducible refine Only.thenN ?_ (by with_reducible assumption) ?_) | (with_reducible refine Only.trans ?_ (by with_reducible assumption)) | (refine .inl ?_; first | rfl | (simp; done) | (simp [Ar.blk]; done)) | (refine .inr ?_; first | omega | (simp; done) | (simp; omega) | exact Only.size (by with_reducible assumption) | (refine Nat.le_trans (Only.size (by with_reducible assumption)) ?_; simp; done)))⟩
    · have t2 : decide (256 < orders) = false := by simpa using h2
      by_cases h3 : most < 0
      · have t3 : decide (most < 0) = true := by simpa using h3
        clear h
        go_enter Try.func35, Try.ntmps35
        go_wp2_with fail
        go_returns
        exact ⟨rfl, by repeat' (first | (with_reducible exact Only.refl _ _) | (with_reducible assumption) | (refine Only.of_none ?_; with_reducible assumption) | (with_reducible refine Only.drewN ?_ _) | (with_reducible refine Only.drew ?_) | (with_reducible refine Only.alloc ?_ _) | (with_reducible refine Only.setCell ?_ ?_ _) | (with_reducible refine Only.then0 ?_ (by with_reducible assumption)) | (with_reducible refine Only.thenN ?_ (by with_reducible assumption) ?_) | (with_reducible refine Only.trans ?_ (by with_reducible assumption)) | (refine .inl ?_; first | rfl | (simp; done) | (simp [Ar.blk]; done)) | (refine .inr ?_; first | omega | (simp; done) | (simp; omega) | exact Only.size (by with_reducible assumption) | (refine Nat.le_trans (Only.size (by with_reducible assumption)) ?_; simp; done)))⟩
      · have t3 : decide (most < 0) = false := by simpa using h3
        have t4 : decide (128 < most) = true := by simp; omega
        clear h
        go_enter Try.func35, Try.ntmps35
        go_wp2_with fail
        go_returns
        exact ⟨rfl, by repeat' (first | (with_reducible exact Only.refl _ _) | (with_reducible assumption) | (refine Only.of_none ?_; with_reducible assumption) | (with_reducible refine Only.drewN ?_ _) | (with_reducible refine Only.drew ?_) | (with_reducible refine Only.alloc ?_ _) | (with_reducible refine Only.setCell ?_ ?_ _) | (with_reducible refine Only.then0 ?_ (by with_reducible assumption)) | (with_reducible refine Only.thenN ?_ (by with_reducible assumption) ?_) | (with_reducible refine Only.trans ?_ (by with_reducible assumption)) | (refine .inl ?_; first | rfl | (simp; done) | (simp [Ar.blk]; done)) | (refine .inr ?_; first | omega | (simp; done) | (simp; omega) | exact Only.size (by with_reducible assumption) | (refine Nat.le_trans (Only.size (by with_reducible assumption)) ?_; simp; done)))⟩

/-- What New hands back. -/
def R6New (w : World) (most room : Nat) (e : Ending) (w' : World) : Prop :=
  ∃ r T, e = .returned (.tuple #[.pointer (some ⟨r, 0, none⟩), .int .i64 0]) ∧ R6 w' r T most room (fun _ => []) ∧ Only (fun _ => False) w w' ∧ ∀ i, T i → w.heap.size ≤ i
set_option maxRecDepth 100000 in
theorem r6_new (w : World) (room most : Nat) (hr : room ≤ 256) (hm : most ≤ 128) :
    Calls Try.prog 35 #[.int .i64 room, .int .i64 most] w (R6New w most room) := by
  have t1 : decide ((room : Int) < 0) = false := by simp
  have t2 : decide (256 < room) = false := by simp; omega
  have t2' : decide ((256 : Int) < (room : Int)) = false := by simp; omega
  have t3 : decide ((most : Int) < 0) = false := by simp
  have t4 : decide (128 < most) = false := by simp; omega
  have t4' : decide ((128 : Int) < (most : Int)) = false := by simp; omega
  go_enter Try.func35, Try.ntmps35
  go_wp2_with fail
  go_returns
  have hcell : ∀ o v, (#[.int .i64 (room : Int), .int .i64 (most : Int), .slice none 0 0, .slice none 0 0] : Array Value)[o]? = some v → Cell (w.alloc (.cells #[.int .i64 (room : Int), .int .i64 (most : Int), .slice none 0 0, .slice none 0 0] 162)) w.heap.size o v := fun o v hv => Cell.new hv
  refine ⟨w.heap.size, _, rfl, ⟨fun _ => .slice none 0 0, ⟨hcell 0 _ rfl, hcell 1 _ rfl, hcell 2 _ rfl, hcell 3 _ rfl, fun q => World.ownsRow_nil _ _ _ _, fun q g hg => (by cases hg), fun g hg => (by cases hg)⟩, rfl⟩, (Only.refl _ _).alloc _, fun i hi => ?_⟩
  rcases hi with rfl | ⟨q, hi⟩
  · exact Nat.le_refl _
  · cases hi
end Go.Proofs.Ytilngakgofjmpaa
