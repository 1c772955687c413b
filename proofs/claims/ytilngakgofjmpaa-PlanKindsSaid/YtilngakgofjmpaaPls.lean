/- Plan: the chapter's examples (the law's works). No condition. -/
import Derived.Test.YtilngakgofjmpaaJD
import Derived.Test.YtilngakgofjmpaaJB
import Derived.Test.YtilngakgofjmpaaPlW
namespace Go.Proofs.Ytilngakgofjmpaa
set_option linter.unusedVariables false
set_option linter.unusedSimpArgs false
open Go.RowKit Go.Shelf
open Od (OrdR)

def px1 : OrdR := ⟨1, 1, 2, 10, 5⟩
def px2 : OrdR := ⟨2, 2, 2, 10, 5⟩
def px3 : OrdR := ⟨3, 1, 2, 11, 5⟩
def pxS (l : List OrdR) : Bool → List OrdR := fun q => if q then l else []
theorem px_i1 : insE 2 4 (fun _ => []) px1 = 0 := by decide
theorem px_s1 : insS 2 4 (fun _ => []) px1 = pxS [px1] := by unfold insS; rw [if_pos px_i1]; funext q; cases q <;> rfl
theorem px_i2 : insE 2 4 (pxS [px1]) px2 = 0 := by decide
theorem px_s2 : insS 2 4 (pxS [px1]) px2 = pxS [px1, px2] := by unfold insS; rw [if_pos px_i2]; funext q; cases q <;> rfl
theorem px_i3 : insE 2 4 (pxS [px1, px2]) px3 = 0 := by decide
theorem px_s3 : insS 2 4 (pxS [px1, px2]) px3 = pxS [px1, px2, px3] := by unfold insS; rw [if_pos px_i3]; funext q; cases q <;> rfl
theorem px_l : laidL 2 4 [px1, px2, px3] = pxS [px1, px2, px3] := by
  show insS 2 4 (insS 2 4 (insS 2 4 (fun _ => []) px1) px2) px3 = _
  rw [px_s1, px_s2, px_s3]
theorem px_p0 : planC 2 4 (pxS [px1, px2, px3]) ⟨3, 1, 1, 10, 7⟩ = ⟨0, [⟨1, 10, 5, false⟩, ⟨2, 10, 2, false⟩], 7, 0, 0⟩ := by rfl
theorem px_p1 : planC 2 4 (pxS [px1, px2, px3]) ⟨1, 4, 1, 11, 5⟩ = ⟨0, [⟨1, 10, 5, true⟩, ⟨2, 10, 5, false⟩], 5, 0, 0⟩ := by rfl
theorem px_p2 : planC 2 4 (pxS [px1, px2, px3]) ⟨3, 4, 1, 10, 12⟩ = ⟨81, [], 0, 0, 0⟩ := by rfl
theorem px_p3 : planC 2 4 (pxS [px1, px2, px3]) ⟨3, 5, 1, 10, 1⟩ = ⟨80, [], 0, 0, 0⟩ := by rfl
theorem px_a : amendC 2 4 (pxS [px1, px2, px3]) 3 10 2 = ⟨0, [], 0, 2, 0⟩ := by rfl
/-- A plan that lies in a box. -/
structure BoxP (B base : Nat) (v : Value) (P : PlanR) (A : World) : Prop where
  c0 : Cell A B 0 v
  c1 : Cell A B 1 (.int .i64 P.traded)
  c2 : Cell A B 2 (.int .i64 P.rests)
  c3 : Cell A B 3 (.int .i64 P.gone)
  own : A.ownsRow base 117 4 v P.hits.length (hitC P.hits)
theorem BoxP.keep {B base : Nat} {v : Value} {P : PlanR} {A C : World} (h : BoxP B base v P A) (o : Only (fun _ => False) A C) : BoxP B base v P C := ⟨h.c0.only o id, h.c1.only o id, h.c2.only o id, h.c3.only o id, ownsRow_apart h.own o (fun _ _ => id)⟩
theorem BoxP.new {base : Nat} {v : Value} {P : PlanR} {w : World} (h : w.ownsRow base 117 4 v P.hits.length (hitC P.hits)) : BoxP w.heap.size base v P (w.alloc (.cells #[v, .int .i64 P.traded, .int .i64 P.rests, .int .i64 P.gone] 104)) :=
  ⟨Cell.new rfl, Cell.new rfl, Cell.new rfl, Cell.new rfl, ownsRow_apart h ((Only.refl (fun _ => False) w).alloc _) (fun _ _ => id)⟩
theorem hitat_two (w : World) (x y : HitR) : HitAt (w.alloc (.cells #[.int .i64 x.i, .int .i64 x.p, .int .i64 x.q, .bool x.o, .int .i64 y.i, .int .i64 y.p, .int .i64 y.q, .bool y.o] 117)) (some ⟨w.heap.size, 0, none⟩) [x, y] := fun k d hk => by
  have hc : ∀ (o : Nat) (v : Value), (#[.int .i64 x.i, .int .i64 x.p, .int .i64 x.q, .bool x.o, .int .i64 y.i, .int .i64 y.p, .int .i64 y.q, .bool y.o] : Array Value)[o]? = some v → (w.alloc (.cells #[.int .i64 x.i, .int .i64 x.p, .int .i64 x.q, .bool x.o, .int .i64 y.i, .int .i64 y.p, .int .i64 y.q, .bool y.o] 117)).cell? ⟨w.heap.size, o, none⟩ = some v := fun o v hv => (Cell.new hv).cell
  have hlt : w.heap.size < (w.alloc (.cells #[.int .i64 x.i, .int .i64 x.p, .int .i64 x.q, .bool x.o, .int .i64 y.i, .int .i64 y.p, .int .i64 y.q, .bool y.o] 117)).heap.size := by simp
  match k, hk with
  | 0, hk =>
    have hk : x = d := by simpa using hk
    subst hk
    exact ⟨w.heap.size, 0, rfl, hlt, hc 0 _ rfl, hc 1 _ rfl, hc 2 _ rfl, hc 3 _ rfl⟩
  | 1, hk =>
    have hk : y = d := by simpa using hk
    subst hk
    exact ⟨w.heap.size, 0, rfl, hlt, hc 4 _ rfl, hc 5 _ rfl, hc 6 _ rfl, hc 7 _ rfl⟩
  | n + 2, hk => simp at hk

set_option maxRecDepth 100000 in
set_option maxHeartbeats 8000000 in
theorem pworks_walk (w : World) : Calls Try.prog 47 #[] w fun e w' => e = .returned (.bool true) ∧ Only (fun _ => False) w w' := by
  have oA : Only (fun _ => False) w (w.alloc (.cells #[.int .i64 1, .int .i64 1, .int .u8 2, .int .i64 10, .int .i64 5, .int .i64 2, .int .i64 2, .int .u8 2, .int .i64 10, .int .i64 5, .int .i64 3, .int .i64 1, .int .u8 2, .int .i64 11, .int .i64 5] 54)) := (Only.refl _ _).alloc _
  have hin : OrdIn (w.alloc (.cells #[.int .i64 1, .int .i64 1, .int .u8 2, .int .i64 10, .int .i64 5, .int .i64 2, .int .i64 2, .int .u8 2, .int .i64 10, .int .i64 5, .int .i64 3, .int .i64 1, .int .u8 2, .int .i64 11, .int .i64 5] 54)) (some ⟨w.heap.size, 0, none⟩) [px1, px2, px3] := fun k o hk => by
    have hc : ∀ (o : Nat) (v : Value), (#[.int .i64 1, .int .i64 1, .int .u8 2, .int .i64 10, .int .i64 5, .int .i64 2, .int .i64 2, .int .u8 2, .int .i64 10, .int .i64 5, .int .i64 3, .int .i64 1, .int .u8 2, .int .i64 11, .int .i64 5] : Array Value)[o]? = some v → (w.alloc (.cells #[.int .i64 1, .int .i64 1, .int .u8 2, .int .i64 10, .int .i64 5, .int .i64 2, .int .i64 2, .int .u8 2, .int .i64 10, .int .i64 5, .int .i64 3, .int .i64 1, .int .u8 2, .int .i64 11, .int .i64 5] 54)).cell? ⟨w.heap.size, o, none⟩ = some v := fun o v hv => (Cell.new hv).cell
    have hlt : w.heap.size < (w.alloc (.cells #[.int .i64 1, .int .i64 1, .int .u8 2, .int .i64 10, .int .i64 5, .int .i64 2, .int .i64 2, .int .u8 2, .int .i64 10, .int .i64 5, .int .i64 3, .int .i64 1, .int .u8 2, .int .i64 11, .int .i64 5] 54)).heap.size := by simp
    match k, hk with
    | 0, hk =>
      have hk : px1 = o := by simpa using hk
      subst hk
      exact ⟨_, 0, rfl, hlt, hc 0 _ rfl, hc 1 _ rfl, hc 2 _ rfl, hc 3 _ rfl, hc 4 _ rfl⟩
    | 1, hk =>
      have hk : px2 = o := by simpa using hk
      subst hk
      exact ⟨_, 0, rfl, hlt, hc 5 _ rfl, hc 6 _ rfl, hc 7 _ rfl, hc 8 _ rfl, hc 9 _ rfl⟩
    | 2, hk =>
      have hk : px3 = o := by simpa using hk
      subst hk
      exact ⟨_, 0, rfl, hlt, hc 10 _ rfl, hc 11 _ rfl, hc 12 _ rfl, hc 13 _ rfl, hc 14 _ rfl⟩
    | n + 3, hk => simp at hk
  have HL := Lib.hid (show Calls Try.prog 52 #[.int .i64 4, .int .i64 2, .slice (some ⟨w.heap.size, 0, none⟩) 3 3] (w.alloc (.cells #[.int .i64 1, .int .i64 1, .int .u8 2, .int .i64 10, .int .i64 5, .int .i64 2, .int .i64 2, .int .u8 2, .int .i64 10, .int .i64 5, .int .i64 3, .int .i64 1, .int .u8 2, .int .i64 11, .int .i64 5] 54)) (LaidPost (w.alloc (.cells #[.int .i64 1, .int .i64 1, .int .u8 2, .int .i64 10, .int .i64 5, .int .i64 2, .int .i64 2, .int .u8 2, .int .i64 10, .int .i64 5, .int .i64 3, .int .i64 1, .int .u8 2, .int .i64 11, .int .i64 5] 54)) 2 4 [px1, px2, px3]) from
    k_laid _ 4 2 (by decide) (by decide) [px1, px2, px3] _ 3 hin (fun o ho => by
      simp only [List.mem_cons, List.mem_nil_iff, or_false] at ho
      rcases ho with rfl | rfl | rfl <;> rfl) (by decide))
  have HOA := Lib.hid oA
  clear hin oA
  go_enter Try.func47, Try.ntmps47
  go_wp2_with fail
  refine HL.out.mono ?_
  intro en w1 hq
  obtain ⟨b, r, T, T6, rfl, hBP⟩ := hq
  rw [px_l] at hBP
  have o1 : Only (fun _ => False) w w1 := HOA.out.trans hBP.only
  have HF0 := Lib.hid fun W (o : Only (fun _ => False) w1 W) => (show Calls Try.prog 53 #[.pointer (some ⟨b, 0, none⟩), .agg #[.int .i64 3, .int .u8 1, .int .u8 1, .int .i64 10, .int .i64 7]] W (PlanPost W ⟨0, [⟨1, 10, 5, false⟩, ⟨2, 10, 2, false⟩], 7, 0, 0⟩) from by rw [← px_p0]; exact k_Of (hBP.bk.only o (fun _ _ => id)) ⟨3, 1, 1, 10, 7⟩)
  have HF1 := Lib.hid fun W (o : Only (fun _ => False) w1 W) => (show Calls Try.prog 53 #[.pointer (some ⟨b, 0, none⟩), .agg #[.int .i64 1, .int .u8 4, .int .u8 1, .int .i64 11, .int .i64 5]] W (PlanPost W ⟨0, [⟨1, 10, 5, true⟩, ⟨2, 10, 5, false⟩], 5, 0, 0⟩) from by rw [← px_p1]; exact k_Of (hBP.bk.only o (fun _ _ => id)) ⟨1, 4, 1, 11, 5⟩)
  have HF2 := Lib.hid fun W (o : Only (fun _ => False) w1 W) => (show Calls Try.prog 53 #[.pointer (some ⟨b, 0, none⟩), .agg #[.int .i64 3, .int .u8 4, .int .u8 1, .int .i64 10, .int .i64 12]] W (PlanPost W ⟨81, [], 0, 0, 0⟩) from by rw [← px_p2]; exact k_Of (hBP.bk.only o (fun _ _ => id)) ⟨3, 4, 1, 10, 12⟩)
  have HF3 := Lib.hid fun W (o : Only (fun _ => False) w1 W) => (show Calls Try.prog 53 #[.pointer (some ⟨b, 0, none⟩), .agg #[.int .i64 3, .int .u8 5, .int .u8 1, .int .i64 10, .int .i64 1]] W (PlanPost W ⟨80, [], 0, 0, 0⟩) from by rw [← px_p3]; exact k_Of (hBP.bk.only o (fun _ _ => id)) ⟨3, 5, 1, 10, 1⟩)
  have HF4 := Lib.hid fun W (o : Only (fun _ => False) w1 W) => (show Calls Try.prog 60 #[.pointer (some ⟨b, 0, none⟩), .int .i64 3, .int .i64 10, .int .i64 2] W (PlanPost W ⟨0, [], 0, 2, 0⟩) from by rw [← px_a]; exact k_Amend (hBP.bk.only o (fun _ _ => id)) 3 10 2 rfl)
  have O1 := Lib.hid o1
  clear hBP HL o1
  go_wp2_with fail
  refine (HF0.out _ (by repeat' (first | (with_reducible exact Only.refl _ _) | (with_reducible assumption) | (refine Only.of_none ?_; with_reducible assumption) | (with_reducible refine Only.drewN ?_ _) | (with_reducible refine Only.drew ?_) | (with_reducible refine Only.alloc ?_ _) | (with_reducible refine Only.setCell ?_ ?_ _) | (with_reducible refine Only.then0 ?_ (by with_reducible assumption)) | (with_reducible refine Only.thenN ?_ (by with_reducible assumption) ?_) | (with_reducible refine Only.trans ?_ (by with_reducible assumption)) | (refine .inl ?_; first | rfl | (simp; done) | (simp [Ar.blk]; done)) | (refine .inr ?_; first | omega | (simp; done) | (simp; omega) | exact Only.size (by with_reducible assumption) | (refine Nat.le_trans (Only.size (by with_reducible assumption)) ?_; simp; done))))).mono ?_
  intro en x0 hq
  obtain ⟨v0, rfl, hv0, o0_⟩ := hq
  unfold planV
  obtain ⟨a0, c0, rfl, _⟩ := own_slice hv0
  simp only [List.length_cons, List.length_nil, Nat.zero_add, Nat.reduceAdd] at hv0 ⊢
  have B0 := Lib.hid (BoxP.new (P := ⟨0, [⟨1, 10, 5, false⟩, ⟨2, 10, 2, false⟩], 7, 0, 0⟩) hv0)
  have z0_ := o0_.size
  clear hv0 HF0
  go_wp2_with fail
  refine (HF1.out _ (by repeat' (first | (with_reducible exact Only.refl _ _) | (with_reducible assumption) | (refine Only.of_none ?_; with_reducible assumption) | (with_reducible refine Only.drewN ?_ _) | (with_reducible refine Only.drew ?_) | (with_reducible refine Only.alloc ?_ _) | (with_reducible refine Only.setCell ?_ ?_ _) | (with_reducible refine Only.then0 ?_ (by with_reducible assumption)) | (with_reducible refine Only.thenN ?_ (by with_reducible assumption) ?_) | (with_reducible refine Only.trans ?_ (by with_reducible assumption)) | (refine .inl ?_; first | rfl | (simp; done) | (simp [Ar.blk]; done)) | (refine .inr ?_; first | omega | (simp; done) | (simp; omega) | exact Only.size (by with_reducible assumption) | (refine Nat.le_trans (Only.size (by with_reducible assumption)) ?_; simp; done))))).mono ?_
  intro en x1 hq
  obtain ⟨v1, rfl, hv1, o1_⟩ := hq
  unfold planV
  obtain ⟨a1, c1, rfl, _⟩ := own_slice hv1
  simp only [List.length_cons, List.length_nil, Nat.zero_add, Nat.reduceAdd] at hv1 ⊢
  have B1 := Lib.hid (BoxP.new (P := ⟨0, [⟨1, 10, 5, true⟩, ⟨2, 10, 5, false⟩], 5, 0, 0⟩) hv1)
  have z1_ := o1_.size
  clear hv1 HF1
  go_wp2_with fail
  refine (HF2.out _ (by repeat' (first | (with_reducible exact Only.refl _ _) | (with_reducible assumption) | (refine Only.of_none ?_; with_reducible assumption) | (with_reducible refine Only.drewN ?_ _) | (with_reducible refine Only.drew ?_) | (with_reducible refine Only.alloc ?_ _) | (with_reducible refine Only.setCell ?_ ?_ _) | (with_reducible refine Only.then0 ?_ (by with_reducible assumption)) | (with_reducible refine Only.thenN ?_ (by with_reducible assumption) ?_) | (with_reducible refine Only.trans ?_ (by with_reducible assumption)) | (refine .inl ?_; first | rfl | (simp; done) | (simp [Ar.blk]; done)) | (refine .inr ?_; first | omega | (simp; done) | (simp; omega) | exact Only.size (by with_reducible assumption) | (refine Nat.le_trans (Only.size (by with_reducible assumption)) ?_; simp; done))))).mono ?_
  intro en x2 hq
  obtain ⟨v2, rfl, hv2, o2_⟩ := hq
  unfold planV
  obtain ⟨a2, c2, rfl, _⟩ := own_slice hv2
  simp only [List.length_cons, List.length_nil, Nat.zero_add, Nat.reduceAdd] at hv2 ⊢
  have B2 := Lib.hid (BoxP.new (P := ⟨81, [], 0, 0, 0⟩) hv2)
  have z2_ := o2_.size
  clear hv2 HF2
  go_wp2_with fail
  refine (HF3.out _ (by repeat' (first | (with_reducible exact Only.refl _ _) | (with_reducible assumption) | (refine Only.of_none ?_; with_reducible assumption) | (with_reducible refine Only.drewN ?_ _) | (with_reducible refine Only.drew ?_) | (with_reducible refine Only.alloc ?_ _) | (with_reducible refine Only.setCell ?_ ?_ _) | (with_reducible refine Only.then0 ?_ (by with_reducible assumption)) | (with_reducible refine Only.thenN ?_ (by with_reducible assumption) ?_) | (with_reducible refine Only.trans ?_ (by with_reducible assumption)) | (refine .inl ?_; first | rfl | (simp; done) | (simp [Ar.blk]; done)) | (refine .inr ?_; first | omega | (simp; done) | (simp; omega) | exact Only.size (by with_reducible assumption) | (refine Nat.le_trans (Only.size (by with_reducible assumption)) ?_; simp; done))))).mono ?_
  intro en x3 hq
  obtain ⟨v3, rfl, hv3, o3_⟩ := hq
  unfold planV
  obtain ⟨a3, c3, rfl, _⟩ := own_slice hv3
  simp only [List.length_cons, List.length_nil, Nat.zero_add, Nat.reduceAdd] at hv3 ⊢
  have B3 := Lib.hid (BoxP.new (P := ⟨80, [], 0, 0, 0⟩) hv3)
  have z3_ := o3_.size
  clear hv3 HF3
  have b0 := B0.out.keep (show Only (fun _ => False) _ (x3.alloc (.cells #[.slice a3 0 c3, .int .i64 0, .int .i64 0, .int .i64 0] 104)) from by repeat' (first | (with_reducible exact Only.refl _ _) | (with_reducible assumption) | (refine Only.of_none ?_; with_reducible assumption) | (with_reducible refine Only.drewN ?_ _) | (with_reducible refine Only.drew ?_) | (with_reducible refine Only.alloc ?_ _) | (with_reducible refine Only.setCell ?_ ?_ _) | (with_reducible refine Only.then0 ?_ (by with_reducible assumption)) | (with_reducible refine Only.thenN ?_ (by with_reducible assumption) ?_) | (with_reducible refine Only.trans ?_ (by with_reducible assumption)) | (refine .inl ?_; first | rfl | (simp; done) | (simp [Ar.blk]; done)) | (refine .inr ?_; first | omega | (simp; done) | (simp; omega) | exact Only.size (by with_reducible assumption) | (refine Nat.le_trans (Only.size (by with_reducible assumption)) ?_; simp; done))))
  have e0 := b0.c0.cell
  have e1 := b0.c1.cell
  have e2 := b0.c2.cell
  have e3 := b0.c3.cell
  have ze := cell_lt e0
  have HWO := Lib.hid (show Calls Try.prog 49 #[.agg #[.slice a0 2 c0, .int .i64 7, .int .i64 0, .int .i64 0]] (x3.alloc (.cells #[.slice a3 0 c3, .int .i64 0, .int .i64 0, .int .i64 0] 104)) (fun e w' => e = .returned (.tuple #[.int .i64 70, .bool true]) ∧ Only (fun _ => False) (x3.alloc (.cells #[.slice a3 0 c3, .int .i64 0, .int .i64 0, .int .i64 0] 104)) w') from k_worth (x3.alloc (.cells #[.slice a3 0 c3, .int .i64 0, .int .i64 0, .int .i64 0] 104)) a0 c0 [⟨1, 10, 5, false⟩, ⟨2, 10, 2, false⟩] (by decide) (HitAt.of_slice b0.own) 7 0 0)
  clear b0
  go_wp2_with fail
  refine HWO.out.mono ?_
  rintro en x4 ⟨rfl, o4_⟩
  clear e0 e1 e2 e3 ze HWO
  go_wp2_with fail
  refine (HF4.out _ (by repeat' (first | (with_reducible exact Only.refl _ _) | (with_reducible assumption) | (refine Only.of_none ?_; with_reducible assumption) | (with_reducible refine Only.drewN ?_ _) | (with_reducible refine Only.drew ?_) | (with_reducible refine Only.alloc ?_ _) | (with_reducible refine Only.setCell ?_ ?_ _) | (with_reducible refine Only.then0 ?_ (by with_reducible assumption)) | (with_reducible refine Only.thenN ?_ (by with_reducible assumption) ?_) | (with_reducible refine Only.trans ?_ (by with_reducible assumption)) | (refine .inl ?_; first | rfl | (simp; done) | (simp [Ar.blk]; done)) | (refine .inr ?_; first | omega | (simp; done) | (simp; omega) | exact Only.size (by with_reducible assumption) | (refine Nat.le_trans (Only.size (by with_reducible assumption)) ?_; simp; done))))).mono ?_
  intro en x5 hq
  obtain ⟨v5, rfl, hv5, o5_⟩ := hq
  unfold planV
  obtain ⟨a5, c5, rfl, _⟩ := own_slice hv5
  simp only [List.length_cons, List.length_nil, Nat.zero_add, Nat.reduceAdd] at hv5 ⊢
  have B5 := Lib.hid (BoxP.new (P := ⟨0, [], 0, 2, 0⟩) hv5)
  clear hv5 HF4
  have b0 := B0.out.keep (show Only (fun _ => False) _ (x5.alloc (.cells #[.slice a5 0 c5, .int .i64 0, .int .i64 2, .int .i64 0] 104)) from by repeat' (first | (with_reducible exact Only.refl _ _) | (with_reducible assumption) | (refine Only.of_none ?_; with_reducible assumption) | (with_reducible refine Only.drewN ?_ _) | (with_reducible refine Only.drew ?_) | (with_reducible refine Only.alloc ?_ _) | (with_reducible refine Only.setCell ?_ ?_ _) | (with_reducible refine Only.then0 ?_ (by with_reducible assumption)) | (with_reducible refine Only.thenN ?_ (by with_reducible assumption) ?_) | (with_reducible refine Only.trans ?_ (by with_reducible assumption)) | (refine .inl ?_; first | rfl | (simp; done) | (simp [Ar.blk]; done)) | (refine .inr ?_; first | omega | (simp; done) | (simp; omega) | exact Only.size (by with_reducible assumption) | (refine Nat.le_trans (Only.size (by with_reducible assumption)) ?_; simp; done))))
  have e0 := b0.c0.cell
  have e1 := b0.c1.cell
  have e2 := b0.c2.cell
  have e3 := b0.c3.cell
  have ze := cell_lt e0
  have HS1 := Lib.hid (show Calls Try.prog 57 #[.agg #[.slice a0 2 c0, .int .i64 7, .int .i64 0, .int .i64 0], .agg #[.slice (some ⟨(x5.alloc (.cells #[.slice a5 0 c5, .int .i64 0, .int .i64 2, .int .i64 0] 104)).heap.size, 0, none⟩) 2 2, .int .i64 7, .int .i64 0, .int .i64 0]] ((x5.alloc (.cells #[.slice a5 0 c5, .int .i64 0, .int .i64 2, .int .i64 0] 104)).alloc (.cells #[.int .i64 1, .int .i64 10, .int .i64 5, .bool false, .int .i64 2, .int .i64 10, .int .i64 2, .bool false] 117)) (fun e w' => e = .returned (.bool true) ∧ Only (fun _ => False) ((x5.alloc (.cells #[.slice a5 0 c5, .int .i64 0, .int .i64 2, .int .i64 0] 104)).alloc (.cells #[.int .i64 1, .int .i64 10, .int .i64 5, .bool false, .int .i64 2, .int .i64 10, .int .i64 2, .bool false] 117)) w') from
    k_sameP _ ⟨0, [⟨1, 10, 5, false⟩, ⟨2, 10, 2, false⟩], 7, 0, 0⟩ a0 (some ⟨(x5.alloc (.cells #[.slice a5 0 c5, .int .i64 0, .int .i64 2, .int .i64 0] 104)).heap.size, 0, none⟩) c0 2 (by decide) (HitAt.of_slice (b0.keep ((Only.refl _ _).alloc _)).own) (hitat_two (x5.alloc (.cells #[.slice a5 0 c5, .int .i64 0, .int .i64 2, .int .i64 0] 104)) ⟨1, 10, 5, false⟩ ⟨2, 10, 2, false⟩))
  clear b0
  simp only [World.size_alloc] at HS1
  go_wp2_with fail
  refine HS1.out.mono ?_
  rintro en x6 ⟨rfl, o6_⟩
  clear e0 e1 e2 e3 ze HS1
  have b1 := B1.out.keep (show Only (fun _ => False) _ x6 from by repeat' (first | (with_reducible exact Only.refl _ _) | (with_reducible assumption) | (refine Only.of_none ?_; with_reducible assumption) | (with_reducible refine Only.drewN ?_ _) | (with_reducible refine Only.drew ?_) | (with_reducible refine Only.alloc ?_ _) | (with_reducible refine Only.setCell ?_ ?_ _) | (with_reducible refine Only.then0 ?_ (by with_reducible assumption)) | (with_reducible refine Only.thenN ?_ (by with_reducible assumption) ?_) | (with_reducible refine Only.trans ?_ (by with_reducible assumption)) | (refine .inl ?_; first | rfl | (simp; done) | (simp [Ar.blk]; done)) | (refine .inr ?_; first | omega | (simp; done) | (simp; omega) | exact Only.size (by with_reducible assumption) | (refine Nat.le_trans (Only.size (by with_reducible assumption)) ?_; simp; done))))
  have e0 := b1.c0.cell
  have e1 := b1.c1.cell
  have e2 := b1.c2.cell
  have e3 := b1.c3.cell
  have ze := cell_lt e0
  have HS2 := Lib.hid (show Calls Try.prog 57 #[.agg #[.slice a1 2 c1, .int .i64 5, .int .i64 0, .int .i64 0], .agg #[.slice (some ⟨x6.heap.size, 0, none⟩) 2 2, .int .i64 5, .int .i64 0, .int .i64 0]] (x6.alloc (.cells #[.int .i64 1, .int .i64 10, .int .i64 5, .bool true, .int .i64 2, .int .i64 10, .int .i64 5, .bool false] 117)) (fun e w' => e = .returned (.bool true) ∧ Only (fun _ => False) (x6.alloc (.cells #[.int .i64 1, .int .i64 10, .int .i64 5, .bool true, .int .i64 2, .int .i64 10, .int .i64 5, .bool false] 117)) w') from
    k_sameP _ ⟨0, [⟨1, 10, 5, true⟩, ⟨2, 10, 5, false⟩], 5, 0, 0⟩ a1 (some ⟨x6.heap.size, 0, none⟩) c1 2 (by decide) (HitAt.of_slice (b1.keep ((Only.refl _ _).alloc _)).own) (hitat_two x6 ⟨1, 10, 5, true⟩ ⟨2, 10, 5, false⟩))
  clear b1
  go_wp2_with fail
  refine HS2.out.mono ?_
  rintro en x7 ⟨rfl, o7_⟩
  clear e0 e1 e2 e3 ze HS2
  have b5 := B5.out.keep (show Only (fun _ => False) _ x7 from by repeat' (first | (with_reducible exact Only.refl _ _) | (with_reducible assumption) | (refine Only.of_none ?_; with_reducible assumption) | (with_reducible refine Only.drewN ?_ _) | (with_reducible refine Only.drew ?_) | (with_reducible refine Only.alloc ?_ _) | (with_reducible refine Only.setCell ?_ ?_ _) | (with_reducible refine Only.then0 ?_ (by with_reducible assumption)) | (with_reducible refine Only.thenN ?_ (by with_reducible assumption) ?_) | (with_reducible refine Only.trans ?_ (by with_reducible assumption)) | (refine .inl ?_; first | rfl | (simp; done) | (simp [Ar.blk]; done)) | (refine .inr ?_; first | omega | (simp; done) | (simp; omega) | exact Only.size (by with_reducible assumption) | (refine Nat.le_trans (Only.size (by with_reducible assumption)) ?_; simp; done))))
  have e0 := b5.c0.cell
  have e1 := b5.c1.cell
  have e2 := b5.c2.cell
  have e3 := b5.c3.cell
  have ze := cell_lt e0
  have HS3 := Lib.hid (show Calls Try.prog 57 #[.agg #[.slice a5 0 c5, .int .i64 0, .int .i64 2, .int .i64 0], .agg #[.slice none 0 0, .int .i64 0, .int .i64 2, .int .i64 0]] x7 (fun e w' => e = .returned (.bool true) ∧ Only (fun _ => False) x7 w') from
    k_sameP _ ⟨0, [], 0, 2, 0⟩ a5 none c5 0 (by decide) (fun k d hk => by simp at hk) (fun k d hk => by simp at hk))
  clear b5
  go_wp2_with fail
  refine HS3.out.mono ?_
  rintro en x8 ⟨rfl, o8_⟩
  clear e0 e1 e2 e3 ze HS3
  go_wp2_with fail
  go_returns
  exact ⟨rfl, O1.out.trans (by repeat' (first | (with_reducible exact Only.refl _ _) | (with_reducible assumption) | (refine Only.of_none ?_; with_reducible assumption) | (with_reducible refine Only.drewN ?_ _) | (with_reducible refine Only.drew ?_) | (with_reducible refine Only.alloc ?_ _) | (with_reducible refine Only.setCell ?_ ?_ _) | (with_reducible refine Only.then0 ?_ (by with_reducible assumption)) | (with_reducible refine Only.thenN ?_ (by with_reducible assumption) ?_) | (with_reducible refine Only.trans ?_ (by with_reducible assumption)) | (refine .inl ?_; first | rfl | (simp; done) | (simp [Ar.blk]; done)) | (refine .inr ?_; first | omega | (simp; done) | (simp; omega) | exact Only.size (by with_reducible assumption) | (refine Nat.le_trans (Only.size (by with_reducible assumption)) ?_; simp; done))))⟩
end Go.Proofs.Ytilngakgofjmpaa
