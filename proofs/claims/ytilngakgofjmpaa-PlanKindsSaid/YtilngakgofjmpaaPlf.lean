/- Plan: what a plan is as a value; samePlan at two that are alike. Conditions: both are read. -/
import Derived.Test.YtilngakgofjmpaaPl6
import Derived.Test.YtilngakgofjmpaaJ8
namespace Go.Proofs.Ytilngakgofjmpaa
set_option linter.unusedVariables false
set_option linter.unusedSimpArgs false
open Go.RowKit

def planV (v : Value) (P : PlanR) : Value := .agg #[v, .int .i64 P.traded, .int .i64 P.rests, .int .i64 P.gone]
/-- What Of hands back. -/
def PlanPost (w : World) (P : PlanR) (e : Ending) (w' : World) : Prop := ∃ v, e = .returned (.tuple #[planV v P, .int .i64 P.err]) ∧ w'.ownsRow w.heap.size 117 4 v P.hits.length (hitC P.hits) ∧ Only (fun _ => False) w w'

set_option maxRecDepth 100000 in
set_option maxHeartbeats 4000000 in
theorem k_sameP (w : World) (P : PlanR) (va vb : Option Addr) (ca cb : Nat) (hl : P.hits.length ≤ 100000000) (ha : HitAt w va P.hits) (hb : HitAt w vb P.hits) :
    Calls Try.prog 57 #[planV (.slice va P.hits.length ca) P, planV (.slice vb P.hits.length cb) P] w fun e w' => e = .returned (.bool true) ∧ Only (fun _ => False) w w' := by
  have HS := Lib.hid fun W (o : Only (fun _ => False) w W) => k_sameH W P.hits va vb ca cb hl (ha.only o (fun _ _ => id)) (hb.only o (fun _ _ => id))
  obtain ⟨er, hs, tr, re, gn⟩ := P
  unfold planV
  simp only at *
  obtain ⟨n, hn⟩ : ∃ n, n = hs.length := ⟨_, rfl⟩
  rw [← hn] at HS ⊢
  have t1 : (tr == tr) = true := by simp
  have t2 : (re == re) = true := by simp
  have t3 : (gn == gn) = true := by simp
  clear ha hb hn hl
  go_enter Try.func57, Try.ntmps57
  go_wp2_with fail
  refine (HS.out _ (by repeat' (first | (with_reducible exact Only.refl _ _) | (with_reducible assumption) | (refine Only.of_none ?_; with_reducible assumption) | (with_reducible refine Only.drewN ?_ _) | (with_reducible refine Only.drew ?_) | (with_reducible refine Only.alloc ?_ _) | (with_reducible refine Only.setCell ?_ ?_ _) | (with_reducible refine Only.then0 ?_ (by with_reducible assumption)) | (with_reducible refine Only.thenN ?_ (by with_reducible assumption) ?_) | (with_reducible refine Only.trans ?_ (by with_reducible assumption)) | (refine .inl ?_; first | rfl | (simp; done) | (simp [Ar.blk]; done)) | (refine .inr ?_; first | omega | (simp; done) | (simp; omega) | exact Only.size (by with_reducible assumption) | (refine Nat.le_trans (Only.size (by with_reducible assumption)) ?_; simp; done))))).mono ?_
  rintro e w1 ⟨rfl, o1⟩
  have oB : Only (fun _ => False) w ((w.alloc (.cells #[.slice va n ca, .int .i64 tr, .int .i64 re, .int .i64 gn] 104)).alloc (.cells #[.slice vb n cb, .int .i64 tr, .int .i64 re, .int .i64 gn] 104)) := ((Only.refl _ w).alloc _).alloc _
  have hA : ∀ (o : Nat) (v : Value), (#[.slice va n ca, .int .i64 tr, .int .i64 re, .int .i64 gn] : Array Value)[o]? = some v → Cell ((w.alloc (.cells #[.slice va n ca, .int .i64 tr, .int .i64 re, .int .i64 gn] 104)).alloc (.cells #[.slice vb n cb, .int .i64 tr, .int .i64 re, .int .i64 gn] 104)) w.heap.size o v := fun o v hv => (Cell.new hv).alloc _
  have hB : ∀ (o : Nat) (v : Value), (#[.slice vb n cb, .int .i64 tr, .int .i64 re, .int .i64 gn] : Array Value)[o]? = some v → Cell ((w.alloc (.cells #[.slice va n ca, .int .i64 tr, .int .i64 re, .int .i64 gn] 104)).alloc (.cells #[.slice vb n cb, .int .i64 tr, .int .i64 re, .int .i64 gn] 104)) (w.heap.size + 1) o v := fun o v hv => by
    have := Cell.new (w := w.alloc (.cells #[.slice va n ca, .int .i64 tr, .int .i64 re, .int .i64 gn] 104)) (t := 104) hv
    rwa [World.size_alloc] at this
  have a1 := ((hA 1 _ rfl).only o1 id).cell
  have a2 := ((hA 2 _ rfl).only o1 id).cell
  have a3 := ((hA 3 _ rfl).only o1 id).cell
  have b1 := ((hB 1 _ rfl).only o1 id).cell
  have b2 := ((hB 2 _ rfl).only o1 id).cell
  have b3 := ((hB 3 _ rfl).only o1 id).cell
  have za := cell_lt a1
  have zb := cell_lt b1
  have HO := Lib.hid (oB.trans o1)
  clear hA hB oB o1
  go_wp2_with fail
  go_returns
  exact ⟨rfl, HO.out⟩
end Go.Proofs.Ytilngakgofjmpaa
