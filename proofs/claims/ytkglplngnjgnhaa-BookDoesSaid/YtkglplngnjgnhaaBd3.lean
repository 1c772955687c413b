/- BookDoes: one call of both. Conditions: both as their News lay them, and since called alike. -/
import Derived.Test.YtkglplngnjgnhaaBd2
namespace Go.Proofs.Ytkglplngnjgnhaa
set_option linter.unusedVariables false
set_option linter.unusedSimpArgs false
open Go.RowKit Go.Shelf
open Od (OrdR)

theorem TwoB.at {Z : Nat → Prop} {N : Nat} {f1 f2 : Nat} {a1 a2 : Array Value} {v : Value} {P : World → Prop} {w W : World} (o : Only (fun _ => False) w W) (h : TwoB Z N f1 f2 a1 a2 v P W) :
    Calls Try.prog f1 a1 W fun e w1 => e = .returned v ∧ (Only Z w w1 ∧ Only (fun i => Z i ∧ i < N) W w1) ∧ ∀ W2, Only (fun _ => False) w1 W2 → Calls Try.prog f2 a2 W2 fun e w2 => e = .returned v ∧ P w2 ∧ Only Z w w2 ∧ Only (fun i => Z i ∧ i < N) W2 w2 :=
  h.mono fun e w1 ⟨he, o1, h2⟩ => ⟨he, ⟨(Only.of_none o).trans (o1.mono fun _ _ h => h.1), o1⟩, fun W2 oW => (h2 W2 oW).mono fun e w2 ⟨he2, hp, o2⟩ => ⟨he2, hp, (((Only.of_none o).trans (o1.mono fun _ _ h => h.1)).trans (Only.of_none oW)).trans (o2.mono fun _ _ h => h.1), o2⟩⟩
/-- What one call of both leaves. -/
def DPost (Z : Nat → Prop) (B0 b r bo most room m : Nat) (w : World) (e : Ending) (w' : World) : Prop :=
  e = .returned (.bool true) ∧ (∃ l' m', m' ≤ m + 1 ∧ BD Z B0 b r bo most room m' l' w'.heap.size w') ∧ Only Z w w'
theorem Five.onlyN {w : World} {g : Nat} {a0 a1 a2 a3 a4 : Value} (h : Five w g a0 a1 a2 a3 a4) {Z : Nat → Prop} {N : Nat} {w' : World} (o : Only (fun i => Z i ∧ i < N) w w') (hg : N ≤ g) : Five w' g a0 a1 a2 a3 a4 := h.only o (fun hi => by have := hi.2; omega)

def Nine (W : World) (g : Nat) (c : Array Value) : Prop := ∀ k v, c[k]? = some v → Cell W g k v
theorem Nine.new (W : World) (c : Array Value) (t : TypeId) : Nine (W.alloc (.cells c t)) W.heap.size c := fun k v hv => Cell.new hv
theorem Nine.onlyN {W : World} {g : Nat} {c : Array Value} (h : Nine W g c) {Z : Nat → Prop} {N : Nat} {w' : World} (o : Only (fun i => Z i ∧ i < N) W w') (hg : N ≤ g) : Nine w' g c := fun k v hv => (h k v hv).only o (fun hi => by have := hi.2; omega)
theorem Nine.only {W : World} {g : Nat} {c : Array Value} (h : Nine W g c) {w' : World} (o : Only (fun _ => False) W w') : Nine w' g c := fun k v hv => (h k v hv).only o id

section
variable {Z : Nat → Prop} {B0 b r bo most room m : Nat} {l : Bool → List OrdR} {w : World}
variable (hZ : ∀ i, B0 ≤ i → Z i)
include hZ
set_option maxRecDepth 100000 in
set_option maxHeartbeats 4000000 in
theorem does_insert (h : BD Z B0 b r bo most room m l w.heap.size w) (oi oc os op oq sd pp num : Int) (hwi : Wf oi) (hwn : Wf num) :
    Calls Try.prog 30 #[.pointer (some ⟨b, 0, none⟩), .pointer (some ⟨r, 0, none⟩), .pointer (some ⟨bo, 0, none⟩), .agg #[.int .i64 1, .int .i64 oi, .int .i64 oc, .int .u8 os, .int .i64 op, .int .i64 oq, .int .u8 sd, .int .i64 pp, .int .i64 num]] w (DPost Z B0 b r bo most room m w) := by
  have _ := hZ
  have g := h.good
  have H := Lib.hid fun W (o : Only (fun _ => False) w W) => TwoB.at o (show TwoB Z w.heap.size 24 63 #[.pointer (some ⟨b, 0, none⟩), .agg #[.int .i64 oi, .int .i64 oc, .int .u8 os, .int .i64 op, .int .i64 oq]] #[.pointer (some ⟨r, 0, none⟩), .agg #[.int .i64 oi, .int .i64 oc, .int .u8 os, .int .i64 op, .int .i64 oq]] (.int .i64 (insE most room l ⟨oi, oc, os, op, oq⟩)) (fun w' => BD Z B0 b r bo most room m (insS most room l ⟨oi, oc, os, op, oq⟩) w'.heap.size w') W from twoB_turn hZ (h.keep o) o.size (fun k => bk_insert k ⟨oi, oc, os, op, oq⟩ hwi) (fun k => r6_insert k g ⟨oi, oc, os, op, oq⟩))
  obtain ⟨E, hE⟩ : ∃ E, insE most room l ⟨oi, oc, os, op, oq⟩ = E := ⟨_, rfl⟩
  rw [hE] at H
  clear hE h hZ
  have HX := Lib.hid (Nine.new w #[.int .i64 1, .int .i64 oi, .int .i64 oc, .int .u8 os, .int .i64 op, .int .i64 oq, .int .u8 sd, .int .i64 pp, .int .i64 num] 84)
  go_enter Try.func30, Try.ntmps30
  go_wp2_with fail
  refine (H.out _ (by repeat' (first | (with_reducible exact Only.refl _ _) | (with_reducible assumption) | (refine Only.of_none ?_; with_reducible assumption) | (with_reducible refine Only.drewN ?_ _) | (with_reducible refine Only.drew ?_) | (with_reducible refine Only.alloc ?_ _) | (with_reducible refine Only.setCell ?_ ?_ _) | (with_reducible refine Only.then0 ?_ (by with_reducible assumption)) | (with_reducible refine Only.thenN ?_ (by with_reducible assumption) ?_) | (with_reducible refine Only.trans ?_ (by with_reducible assumption)) | (refine .inl ?_; first | rfl | (simp; done) | (simp [Ar.blk]; done)) | (refine .inr ?_; first | omega | (simp; done) | (simp; omega) | exact Only.size (by with_reducible assumption) | (refine Nat.le_trans (Only.size (by with_reducible assumption)) ?_; simp; done))))).mono ?_
  rintro e w1 ⟨rfl, ⟨_, o1⟩, h2⟩
  have H2 := Lib.hid h2
  have zz1 := o1.size
  rw [World.size_alloc] at zz1
  have NX := HX.out.onlyN o1 (Nat.le_refl _)
  have x0 := (NX 0 _ rfl).cell
  have x1 := (NX 1 _ rfl).cell
  have x2 := (NX 2 _ rfl).cell
  have x3 := (NX 3 _ rfl).cell
  have x4 := (NX 4 _ rfl).cell
  have x5 := (NX 5 _ rfl).cell
  have x6 := (NX 6 _ rfl).cell
  have x7 := (NX 7 _ rfl).cell
  have x8 := (NX 8 _ rfl).cell
  have xz := cell_lt x0
  have HX := Lib.hid NX
  clear NX
  clear h2 H
  go_wp2_with fail
  refine (H2.out _ (by repeat' (first | (with_reducible exact Only.refl _ _) | (with_reducible assumption) | (refine Only.of_none ?_; with_reducible assumption) | (with_reducible refine Only.drewN ?_ _) | (with_reducible refine Only.drew ?_) | (with_reducible refine Only.alloc ?_ _) | (with_reducible refine Only.setCell ?_ ?_ _) | (with_reducible refine Only.then0 ?_ (by with_reducible assumption)) | (with_reducible refine Only.thenN ?_ (by with_reducible assumption) ?_) | (with_reducible refine Only.trans ?_ (by with_reducible assumption)) | (refine .inl ?_; first | rfl | (simp; done) | (simp [Ar.blk]; done)) | (refine .inr ?_; first | omega | (simp; done) | (simp; omega) | exact Only.size (by with_reducible assumption) | (refine Nat.le_trans (Only.size (by with_reducible assumption)) ?_; simp; done))))).mono ?_
  rintro e w2 ⟨rfl, p2, oz, o2⟩
  have P2 := Lib.hid p2
  have OZ := Lib.hid oz
  clear p2 H2 oz
  go_wp2_with fail
  go_returns
  exact ⟨rfl, ⟨_, m, by omega, P2.out⟩, OZ.out⟩
set_option maxRecDepth 100000 in
set_option maxHeartbeats 4000000 in
theorem does_reduce (h : BD Z B0 b r bo most room m l w.heap.size w) (oi oc os op oq sd pp num : Int) (hwi : Wf oi) (hwn : Wf num) :
    Calls Try.prog 30 #[.pointer (some ⟨b, 0, none⟩), .pointer (some ⟨r, 0, none⟩), .pointer (some ⟨bo, 0, none⟩), .agg #[.int .i64 3, .int .i64 oi, .int .i64 oc, .int .u8 os, .int .i64 op, .int .i64 oq, .int .u8 sd, .int .i64 pp, .int .i64 num]] w (DPost Z B0 b r bo most room m w) := by
  have _ := hZ
  have g := h.good
  have H := Lib.hid fun W (o : Only (fun _ => False) w W) => TwoB.at o (show TwoB Z w.heap.size 34 65 #[.pointer (some ⟨b, 0, none⟩), .int .i64 num, .int .i64 pp] #[.pointer (some ⟨r, 0, none⟩), .int .i64 num, .int .i64 pp] (.int .i64 (redE l num pp)) (fun w' => BD Z B0 b r bo most room m (redS l num pp) w'.heap.size w') W from twoB_turn hZ (h.keep o) o.size (fun k => bk_reduce k num pp hwn) (fun k => r6_reduce k g num pp))
  obtain ⟨E, hE⟩ : ∃ E, redE l num pp = E := ⟨_, rfl⟩
  rw [hE] at H
  clear hE h hZ
  have HX := Lib.hid (Nine.new w #[.int .i64 3, .int .i64 oi, .int .i64 oc, .int .u8 os, .int .i64 op, .int .i64 oq, .int .u8 sd, .int .i64 pp, .int .i64 num] 84)
  go_enter Try.func30, Try.ntmps30
  go_wp2_with fail
  refine (H.out _ (by repeat' (first | (with_reducible exact Only.refl _ _) | (with_reducible assumption) | (refine Only.of_none ?_; with_reducible assumption) | (with_reducible refine Only.drewN ?_ _) | (with_reducible refine Only.drew ?_) | (with_reducible refine Only.alloc ?_ _) | (with_reducible refine Only.setCell ?_ ?_ _) | (with_reducible refine Only.then0 ?_ (by with_reducible assumption)) | (with_reducible refine Only.thenN ?_ (by with_reducible assumption) ?_) | (with_reducible refine Only.trans ?_ (by with_reducible assumption)) | (refine .inl ?_; first | rfl | (simp; done) | (simp [Ar.blk]; done)) | (refine .inr ?_; first | omega | (simp; done) | (simp; omega) | exact Only.size (by with_reducible assumption) | (refine Nat.le_trans (Only.size (by with_reducible assumption)) ?_; simp; done))))).mono ?_
  rintro e w1 ⟨rfl, ⟨_, o1⟩, h2⟩
  have H2 := Lib.hid h2
  have zz1 := o1.size
  rw [World.size_alloc] at zz1
  have NX := HX.out.onlyN o1 (Nat.le_refl _)
  have x0 := (NX 0 _ rfl).cell
  have x1 := (NX 1 _ rfl).cell
  have x2 := (NX 2 _ rfl).cell
  have x3 := (NX 3 _ rfl).cell
  have x4 := (NX 4 _ rfl).cell
  have x5 := (NX 5 _ rfl).cell
  have x6 := (NX 6 _ rfl).cell
  have x7 := (NX 7 _ rfl).cell
  have x8 := (NX 8 _ rfl).cell
  have xz := cell_lt x0
  have HX := Lib.hid NX
  clear NX
  clear h2 H
  go_wp2_with fail
  refine (H2.out _ (by repeat' (first | (with_reducible exact Only.refl _ _) | (with_reducible assumption) | (refine Only.of_none ?_; with_reducible assumption) | (with_reducible refine Only.drewN ?_ _) | (with_reducible refine Only.drew ?_) | (with_reducible refine Only.alloc ?_ _) | (with_reducible refine Only.setCell ?_ ?_ _) | (with_reducible refine Only.then0 ?_ (by with_reducible assumption)) | (with_reducible refine Only.thenN ?_ (by with_reducible assumption) ?_) | (with_reducible refine Only.trans ?_ (by with_reducible assumption)) | (refine .inl ?_; first | rfl | (simp; done) | (simp [Ar.blk]; done)) | (refine .inr ?_; first | omega | (simp; done) | (simp; omega) | exact Only.size (by with_reducible assumption) | (refine Nat.le_trans (Only.size (by with_reducible assumption)) ?_; simp; done))))).mono ?_
  rintro e w2 ⟨rfl, p2, oz, o2⟩
  have P2 := Lib.hid p2
  have OZ := Lib.hid oz
  clear p2 H2 oz
  go_wp2_with fail
  go_returns
  exact ⟨rfl, ⟨_, m, by omega, P2.out⟩, OZ.out⟩
set_option maxRecDepth 100000 in
set_option maxHeartbeats 4000000 in
theorem does_best (h : BD Z B0 b r bo most room m l w.heap.size w) (oi oc os op oq sd pp num : Int) (hwi : Wf oi) (hwn : Wf num) :
    Calls Try.prog 30 #[.pointer (some ⟨b, 0, none⟩), .pointer (some ⟨r, 0, none⟩), .pointer (some ⟨bo, 0, none⟩), .agg #[.int .i64 5, .int .i64 oi, .int .i64 oc, .int .u8 os, .int .i64 op, .int .i64 oq, .int .u8 sd, .int .i64 pp, .int .i64 num]] w (DPost Z B0 b r bo most room m w) := by
  have _ := hZ
  have g := h.good
  have H := Lib.hid fun W (o : Only (fun _ => False) w W) => TwoB.at o (show TwoB Z w.heap.size 36 67 #[.pointer (some ⟨b, 0, none⟩), .int .u8 sd] #[.pointer (some ⟨r, 0, none⟩), .int .u8 sd] (.int .i64 (bestS l sd)) (fun w' => BD Z B0 b r bo most room m l w'.heap.size w') W from twoB_calm (h.keep o) (fun k => b_best k sd) (fun k => d_best k sd))
  obtain ⟨E, hE⟩ : ∃ E, bestS l sd = E := ⟨_, rfl⟩
  rw [hE] at H
  clear hE h hZ
  have HX := Lib.hid (Nine.new w #[.int .i64 5, .int .i64 oi, .int .i64 oc, .int .u8 os, .int .i64 op, .int .i64 oq, .int .u8 sd, .int .i64 pp, .int .i64 num] 84)
  go_enter Try.func30, Try.ntmps30
  go_wp2_with fail
  refine (H.out _ (by repeat' (first | (with_reducible exact Only.refl _ _) | (with_reducible assumption) | (refine Only.of_none ?_; with_reducible assumption) | (with_reducible refine Only.drewN ?_ _) | (with_reducible refine Only.drew ?_) | (with_reducible refine Only.alloc ?_ _) | (with_reducible refine Only.setCell ?_ ?_ _) | (with_reducible refine Only.then0 ?_ (by with_reducible assumption)) | (with_reducible refine Only.thenN ?_ (by with_reducible assumption) ?_) | (with_reducible refine Only.trans ?_ (by with_reducible assumption)) | (refine .inl ?_; first | rfl | (simp; done) | (simp [Ar.blk]; done)) | (refine .inr ?_; first | omega | (simp; done) | (simp; omega) | exact Only.size (by with_reducible assumption) | (refine Nat.le_trans (Only.size (by with_reducible assumption)) ?_; simp; done))))).mono ?_
  rintro e w1 ⟨rfl, ⟨_, o1⟩, h2⟩
  have H2 := Lib.hid h2
  have zz1 := o1.size
  rw [World.size_alloc] at zz1
  have NX := HX.out.onlyN o1 (Nat.le_refl _)
  have x0 := (NX 0 _ rfl).cell
  have x1 := (NX 1 _ rfl).cell
  have x2 := (NX 2 _ rfl).cell
  have x3 := (NX 3 _ rfl).cell
  have x4 := (NX 4 _ rfl).cell
  have x5 := (NX 5 _ rfl).cell
  have x6 := (NX 6 _ rfl).cell
  have x7 := (NX 7 _ rfl).cell
  have x8 := (NX 8 _ rfl).cell
  have xz := cell_lt x0
  have HX := Lib.hid NX
  clear NX
  clear h2 H
  go_wp2_with fail
  refine (H2.out _ (by repeat' (first | (with_reducible exact Only.refl _ _) | (with_reducible assumption) | (refine Only.of_none ?_; with_reducible assumption) | (with_reducible refine Only.drewN ?_ _) | (with_reducible refine Only.drew ?_) | (with_reducible refine Only.alloc ?_ _) | (with_reducible refine Only.setCell ?_ ?_ _) | (with_reducible refine Only.then0 ?_ (by with_reducible assumption)) | (with_reducible refine Only.thenN ?_ (by with_reducible assumption) ?_) | (with_reducible refine Only.trans ?_ (by with_reducible assumption)) | (refine .inl ?_; first | rfl | (simp; done) | (simp [Ar.blk]; done)) | (refine .inr ?_; first | omega | (simp; done) | (simp; omega) | exact Only.size (by with_reducible assumption) | (refine Nat.le_trans (Only.size (by with_reducible assumption)) ?_; simp; done))))).mono ?_
  rintro e w2 ⟨rfl, p2, oz, o2⟩
  have P2 := Lib.hid p2
  have OZ := Lib.hid oz
  clear p2 H2 oz
  go_wp2_with fail
  go_returns
  exact ⟨rfl, ⟨_, m, by omega, P2.out⟩, OZ.out⟩
set_option maxRecDepth 100000 in
set_option maxHeartbeats 4000000 in
theorem does_fits (h : BD Z B0 b r bo most room m l w.heap.size w) (oi oc os op oq sd pp num : Int) (hwi : Wf oi) (hwn : Wf num) :
    Calls Try.prog 30 #[.pointer (some ⟨b, 0, none⟩), .pointer (some ⟨r, 0, none⟩), .pointer (some ⟨bo, 0, none⟩), .agg #[.int .i64 8, .int .i64 oi, .int .i64 oc, .int .u8 os, .int .i64 op, .int .i64 oq, .int .u8 sd, .int .i64 pp, .int .i64 num]] w (DPost Z B0 b r bo most room m w) := by
  have _ := hZ
  have g := h.good
  have H := Lib.hid fun W (o : Only (fun _ => False) w W) => TwoB.at o (show TwoB Z w.heap.size 53 73 #[.pointer (some ⟨b, 0, none⟩), .int .u8 sd, .int .i64 pp] #[.pointer (some ⟨r, 0, none⟩), .int .u8 sd, .int .i64 pp] (.int .i64 (fitS most room l sd pp)) (fun w' => BD Z B0 b r bo most room m l w'.heap.size w') W from twoB_calm (h.keep o) (fun k => b_fits k sd pp) (fun k => d_fits k g sd pp))
  obtain ⟨E, hE⟩ : ∃ E, fitS most room l sd pp = E := ⟨_, rfl⟩
  rw [hE] at H
  clear hE h hZ
  have HX := Lib.hid (Nine.new w #[.int .i64 8, .int .i64 oi, .int .i64 oc, .int .u8 os, .int .i64 op, .int .i64 oq, .int .u8 sd, .int .i64 pp, .int .i64 num] 84)
  go_enter Try.func30, Try.ntmps30
  go_wp2_with fail
  refine (H.out _ (by repeat' (first | (with_reducible exact Only.refl _ _) | (with_reducible assumption) | (refine Only.of_none ?_; with_reducible assumption) | (with_reducible refine Only.drewN ?_ _) | (with_reducible refine Only.drew ?_) | (with_reducible refine Only.alloc ?_ _) | (with_reducible refine Only.setCell ?_ ?_ _) | (with_reducible refine Only.then0 ?_ (by with_reducible assumption)) | (with_reducible refine Only.thenN ?_ (by with_reducible assumption) ?_) | (with_reducible refine Only.trans ?_ (by with_reducible assumption)) | (refine .inl ?_; first | rfl | (simp; done) | (simp [Ar.blk]; done)) | (refine .inr ?_; first | omega | (simp; done) | (simp; omega) | exact Only.size (by with_reducible assumption) | (refine Nat.le_trans (Only.size (by with_reducible assumption)) ?_; simp; done))))).mono ?_
  rintro e w1 ⟨rfl, ⟨_, o1⟩, h2⟩
  have H2 := Lib.hid h2
  have zz1 := o1.size
  rw [World.size_alloc] at zz1
  have NX := HX.out.onlyN o1 (Nat.le_refl _)
  have x0 := (NX 0 _ rfl).cell
  have x1 := (NX 1 _ rfl).cell
  have x2 := (NX 2 _ rfl).cell
  have x3 := (NX 3 _ rfl).cell
  have x4 := (NX 4 _ rfl).cell
  have x5 := (NX 5 _ rfl).cell
  have x6 := (NX 6 _ rfl).cell
  have x7 := (NX 7 _ rfl).cell
  have x8 := (NX 8 _ rfl).cell
  have xz := cell_lt x0
  have HX := Lib.hid NX
  clear NX
  clear h2 H
  go_wp2_with fail
  refine (H2.out _ (by repeat' (first | (with_reducible exact Only.refl _ _) | (with_reducible assumption) | (refine Only.of_none ?_; with_reducible assumption) | (with_reducible refine Only.drewN ?_ _) | (with_reducible refine Only.drew ?_) | (with_reducible refine Only.alloc ?_ _) | (with_reducible refine Only.setCell ?_ ?_ _) | (with_reducible refine Only.then0 ?_ (by with_reducible assumption)) | (with_reducible refine Only.thenN ?_ (by with_reducible assumption) ?_) | (with_reducible refine Only.trans ?_ (by with_reducible assumption)) | (refine .inl ?_; first | rfl | (simp; done) | (simp [Ar.blk]; done)) | (refine .inr ?_; first | omega | (simp; done) | (simp; omega) | exact Only.size (by with_reducible assumption) | (refine Nat.le_trans (Only.size (by with_reducible assumption)) ?_; simp; done))))).mono ?_
  rintro e w2 ⟨rfl, p2, oz, o2⟩
  have P2 := Lib.hid p2
  have OZ := Lib.hid oz
  clear p2 H2 oz
  go_wp2_with fail
  go_returns
  exact ⟨rfl, ⟨_, m, by omega, P2.out⟩, OZ.out⟩
set_option maxRecDepth 100000 in
set_option maxHeartbeats 4000000 in
theorem does_prices (h : BD Z B0 b r bo most room m l w.heap.size w) (oi oc os op oq sd pp num : Int) (hwi : Wf oi) (hwn : Wf num) :
    Calls Try.prog 30 #[.pointer (some ⟨b, 0, none⟩), .pointer (some ⟨r, 0, none⟩), .pointer (some ⟨bo, 0, none⟩), .agg #[.int .i64 10, .int .i64 oi, .int .i64 oc, .int .u8 os, .int .i64 op, .int .i64 oq, .int .u8 sd, .int .i64 pp, .int .i64 num]] w (DPost Z B0 b r bo most room m w) := by
  have _ := hZ
  have g := h.good
  have H := Lib.hid fun W (o : Only (fun _ => False) w W) => TwoB.at o (show TwoB Z w.heap.size 74 75 #[.pointer (some ⟨b, 0, none⟩), .int .u8 sd] #[.pointer (some ⟨r, 0, none⟩), .int .u8 sd] (.int .i64 (priceS most l sd)) (fun w' => BD Z B0 b r bo most room m l w'.heap.size w') W from twoB_calm (h.keep o) (fun k => b_prices k sd) (fun k => d_prices k g sd))
  obtain ⟨E, hE⟩ : ∃ E, priceS most l sd = E := ⟨_, rfl⟩
  rw [hE] at H
  clear hE h hZ
  have HX := Lib.hid (Nine.new w #[.int .i64 10, .int .i64 oi, .int .i64 oc, .int .u8 os, .int .i64 op, .int .i64 oq, .int .u8 sd, .int .i64 pp, .int .i64 num] 84)
  go_enter Try.func30, Try.ntmps30
  go_wp2_with fail
  refine (H.out _ (by repeat' (first | (with_reducible exact Only.refl _ _) | (with_reducible assumption) | (refine Only.of_none ?_; with_reducible assumption) | (with_reducible refine Only.drewN ?_ _) | (with_reducible refine Only.drew ?_) | (with_reducible refine Only.alloc ?_ _) | (with_reducible refine Only.setCell ?_ ?_ _) | (with_reducible refine Only.then0 ?_ (by with_reducible assumption)) | (with_reducible refine Only.thenN ?_ (by with_reducible assumption) ?_) | (with_reducible refine Only.trans ?_ (by with_reducible assumption)) | (refine .inl ?_; first | rfl | (simp; done) | (simp [Ar.blk]; done)) | (refine .inr ?_; first | omega | (simp; done) | (simp; omega) | exact Only.size (by with_reducible assumption) | (refine Nat.le_trans (Only.size (by with_reducible assumption)) ?_; simp; done))))).mono ?_
  rintro e w1 ⟨rfl, ⟨_, o1⟩, h2⟩
  have H2 := Lib.hid h2
  have zz1 := o1.size
  rw [World.size_alloc] at zz1
  have NX := HX.out.onlyN o1 (Nat.le_refl _)
  have x0 := (NX 0 _ rfl).cell
  have x1 := (NX 1 _ rfl).cell
  have x2 := (NX 2 _ rfl).cell
  have x3 := (NX 3 _ rfl).cell
  have x4 := (NX 4 _ rfl).cell
  have x5 := (NX 5 _ rfl).cell
  have x6 := (NX 6 _ rfl).cell
  have x7 := (NX 7 _ rfl).cell
  have x8 := (NX 8 _ rfl).cell
  have xz := cell_lt x0
  have HX := Lib.hid NX
  clear NX
  clear h2 H
  go_wp2_with fail
  refine (H2.out _ (by repeat' (first | (with_reducible exact Only.refl _ _) | (with_reducible assumption) | (refine Only.of_none ?_; with_reducible assumption) | (with_reducible refine Only.drewN ?_ _) | (with_reducible refine Only.drew ?_) | (with_reducible refine Only.alloc ?_ _) | (with_reducible refine Only.setCell ?_ ?_ _) | (with_reducible refine Only.then0 ?_ (by with_reducible assumption)) | (with_reducible refine Only.thenN ?_ (by with_reducible assumption) ?_) | (with_reducible refine Only.trans ?_ (by with_reducible assumption)) | (refine .inl ?_; first | rfl | (simp; done) | (simp [Ar.blk]; done)) | (refine .inr ?_; first | omega | (simp; done) | (simp; omega) | exact Only.size (by with_reducible assumption) | (refine Nat.le_trans (Only.size (by with_reducible assumption)) ?_; simp; done))))).mono ?_
  rintro e w2 ⟨rfl, p2, oz, o2⟩
  have P2 := Lib.hid p2
  have OZ := Lib.hid oz
  clear p2 H2 oz
  go_wp2_with fail
  go_returns
  exact ⟨rfl, ⟨_, m, by omega, P2.out⟩, OZ.out⟩
set_option maxRecDepth 100000 in
set_option maxHeartbeats 4000000 in
theorem does_open (h : BD Z B0 b r bo most room m l w.heap.size w) (oi oc os op oq sd pp num : Int) (hwi : Wf oi) (hwn : Wf num) :
    Calls Try.prog 30 #[.pointer (some ⟨b, 0, none⟩), .pointer (some ⟨r, 0, none⟩), .pointer (some ⟨bo, 0, none⟩), .agg #[.int .i64 9, .int .i64 oi, .int .i64 oc, .int .u8 os, .int .i64 op, .int .i64 oq, .int .u8 sd, .int .i64 pp, .int .i64 num]] w (DPost Z B0 b r bo most room m w) := by
  have _ := hZ
  have g := h.good
  have H := Lib.hid fun W (o : Only (fun _ => False) w W) => TwoB.at o (show TwoB Z w.heap.size 39 76 #[.pointer (some ⟨b, 0, none⟩), .int .i64 num] #[.pointer (some ⟨r, 0, none⟩), .int .i64 num] (.tuple #[.int .i64 (cntC num (l false) + cntC num (l true)), .int .i64 (lotC num (l false) + lotC num (l true))]) (fun w' => BD Z B0 b r bo most room m l w'.heap.size w') W from twoB_calm (h.keep o) (fun k => bk_open k num) (fun k => (r6_open k g num).mono fun e w' ⟨he, ho⟩ => ⟨he, ho ▸ Only.refl _ _⟩))
  obtain ⟨E, hE⟩ : ∃ E, cntC num (l false) + cntC num (l true) = E := ⟨_, rfl⟩
  obtain ⟨F, hF⟩ : ∃ F, lotC num (l false) + lotC num (l true) = F := ⟨_, rfl⟩
  rw [hE, hF] at H
  clear hE hF h hZ
  have HX := Lib.hid (Nine.new w #[.int .i64 9, .int .i64 oi, .int .i64 oc, .int .u8 os, .int .i64 op, .int .i64 oq, .int .u8 sd, .int .i64 pp, .int .i64 num] 84)
  go_enter Try.func30, Try.ntmps30
  go_wp2_with fail
  refine (H.out _ (by repeat' (first | (with_reducible exact Only.refl _ _) | (with_reducible assumption) | (refine Only.of_none ?_; with_reducible assumption) | (with_reducible refine Only.drewN ?_ _) | (with_reducible refine Only.drew ?_) | (with_reducible refine Only.alloc ?_ _) | (with_reducible refine Only.setCell ?_ ?_ _) | (with_reducible refine Only.then0 ?_ (by with_reducible assumption)) | (with_reducible refine Only.thenN ?_ (by with_reducible assumption) ?_) | (with_reducible refine Only.trans ?_ (by with_reducible assumption)) | (refine .inl ?_; first | rfl | (simp; done) | (simp [Ar.blk]; done)) | (refine .inr ?_; first | omega | (simp; done) | (simp; omega) | exact Only.size (by with_reducible assumption) | (refine Nat.le_trans (Only.size (by with_reducible assumption)) ?_; simp; done))))).mono ?_
  rintro e w1 ⟨rfl, ⟨_, o1⟩, h2⟩
  have H2 := Lib.hid h2
  have zz1 := o1.size
  rw [World.size_alloc] at zz1
  have NX := HX.out.onlyN o1 (Nat.le_refl _)
  have x0 := (NX 0 _ rfl).cell
  have x1 := (NX 1 _ rfl).cell
  have x2 := (NX 2 _ rfl).cell
  have x3 := (NX 3 _ rfl).cell
  have x4 := (NX 4 _ rfl).cell
  have x5 := (NX 5 _ rfl).cell
  have x6 := (NX 6 _ rfl).cell
  have x7 := (NX 7 _ rfl).cell
  have x8 := (NX 8 _ rfl).cell
  have xz := cell_lt x0
  have HX := Lib.hid NX
  clear NX
  clear h2 H
  go_wp2_with fail
  refine (H2.out _ (by repeat' (first | (with_reducible exact Only.refl _ _) | (with_reducible assumption) | (refine Only.of_none ?_; with_reducible assumption) | (with_reducible refine Only.drewN ?_ _) | (with_reducible refine Only.drew ?_) | (with_reducible refine Only.alloc ?_ _) | (with_reducible refine Only.setCell ?_ ?_ _) | (with_reducible refine Only.then0 ?_ (by with_reducible assumption)) | (with_reducible refine Only.thenN ?_ (by with_reducible assumption) ?_) | (with_reducible refine Only.trans ?_ (by with_reducible assumption)) | (refine .inl ?_; first | rfl | (simp; done) | (simp [Ar.blk]; done)) | (refine .inr ?_; first | omega | (simp; done) | (simp; omega) | exact Only.size (by with_reducible assumption) | (refine Nat.le_trans (Only.size (by with_reducible assumption)) ?_; simp; done))))).mono ?_
  rintro e w2 ⟨rfl, p2, oz, o2⟩
  have P2 := Lib.hid p2
  have OZ := Lib.hid oz
  clear p2 H2 oz
  go_wp2_with fail
  go_returns
  exact ⟨rfl, ⟨_, m, by omega, P2.out⟩, OZ.out⟩
set_option maxRecDepth 100000 in
set_option maxHeartbeats 4000000 in
theorem does_looks (h : BD Z B0 b r bo most room m l w.heap.size w) (kind oi oc os op oq sd pp num : Int) (hk : kind < 1 ∨ 10 < kind) :
    Calls Try.prog 30 #[.pointer (some ⟨b, 0, none⟩), .pointer (some ⟨r, 0, none⟩), .pointer (some ⟨bo, 0, none⟩), .agg #[.int .i64 kind, .int .i64 oi, .int .i64 oc, .int .u8 os, .int .i64 op, .int .i64 oq, .int .u8 sd, .int .i64 pp, .int .i64 num]] w (DPost Z B0 b r bo most room m w) := by
  have _ := hZ
  have t1 : (kind == 1) = false := by simp; omega
  have t2 : (kind == 2) = false := by simp; omega
  have t3 : (kind == 3) = false := by simp; omega
  have t4 : (kind == 4) = false := by simp; omega
  have t5 : (kind == 5) = false := by simp; omega
  have t6 : (kind == 6) = false := by simp; omega
  have t7 : (kind == 7) = false := by simp; omega
  have t8 : (kind == 8) = false := by simp; omega
  have t9 : (kind == 9) = false := by simp; omega
  have t10 : (kind == 10) = false := by simp; omega
  have H := Lib.hid fun W (o : Only (fun _ => False) w W) => (s_looks6 (h.keep o)).mono fun e w' (hp : e = .returned (.bool true) ∧ Only (fun _ => False) W w') => (show e = .returned (.bool true) ∧ BD Z B0 b r bo most room m l w'.heap.size w' ∧ Only (fun _ => False) w w' from ⟨hp.1, ((h.keep o).keep hp.2).top, o.trans hp.2⟩)
  clear h hZ hk
  have HX := Lib.hid (Nine.new w #[.int .i64 kind, .int .i64 oi, .int .i64 oc, .int .u8 os, .int .i64 op, .int .i64 oq, .int .u8 sd, .int .i64 pp, .int .i64 num] 84)
  go_enter Try.func30, Try.ntmps30
  go_wp2_with fail
  refine (H.out _ (by repeat' (first | (with_reducible exact Only.refl _ _) | (with_reducible assumption) | (refine Only.of_none ?_; with_reducible assumption) | (with_reducible refine Only.drewN ?_ _) | (with_reducible refine Only.drew ?_) | (with_reducible refine Only.alloc ?_ _) | (with_reducible refine Only.setCell ?_ ?_ _) | (with_reducible refine Only.then0 ?_ (by with_reducible assumption)) | (with_reducible refine Only.thenN ?_ (by with_reducible assumption) ?_) | (with_reducible refine Only.trans ?_ (by with_reducible assumption)) | (refine .inl ?_; first | rfl | (simp; done) | (simp [Ar.blk]; done)) | (refine .inr ?_; first | omega | (simp; done) | (simp; omega) | exact Only.size (by with_reducible assumption) | (refine Nat.le_trans (Only.size (by with_reducible assumption)) ?_; simp; done))))).mono ?_
  rintro e w1 ⟨rfl, p2, o1⟩
  have P2 := Lib.hid p2
  clear p2 H
  go_wp2_with fail
  go_returns
  exact ⟨rfl, ⟨_, m, by omega, P2.out⟩, Only.of_none o1⟩
set_option maxRecDepth 100000 in
set_option maxHeartbeats 4000000 in
theorem does_remove (h : BD Z B0 b r bo most room m l w.heap.size w) (oi oc os op oq sd pp num : Int) (hwi : Wf oi) (hwn : Wf num) :
    Calls Try.prog 30 #[.pointer (some ⟨b, 0, none⟩), .pointer (some ⟨r, 0, none⟩), .pointer (some ⟨bo, 0, none⟩), .agg #[.int .i64 2, .int .i64 oi, .int .i64 oc, .int .u8 os, .int .i64 op, .int .i64 oq, .int .u8 sd, .int .i64 pp, .int .i64 num]] w (DPost Z B0 b r bo most room m w) := by
  have _ := hZ
  have g := h.good
  cases hg : getL l num with
  | none =>
    have hv : remV l num = .tuple #[.agg #[.int .i64 0, .int .i64 0, .int .u8 0, .int .i64 0, .int .i64 0], .int .i64 63] := by unfold remV; rw [hg]; rfl
    have H := Lib.hid fun W (o : Only (fun _ => False) w W) => TwoB.at o (show TwoB Z w.heap.size 28 64 #[.pointer (some ⟨b, 0, none⟩), .int .i64 num] #[.pointer (some ⟨r, 0, none⟩), .int .i64 num] (.tuple #[.agg #[.int .i64 0, .int .i64 0, .int .u8 0, .int .i64 0, .int .i64 0], .int .i64 63]) (fun w' => BD Z B0 b r bo most room m (remS l num) w'.heap.size w') W from twoB_turn hZ (h.keep o) o.size (fun k => hv ▸ bk_remove k num hwn) (fun k => hv ▸ r6_remove k g num))
    clear h hZ hg g
    have HX := Lib.hid (Nine.new w #[.int .i64 2, .int .i64 oi, .int .i64 oc, .int .u8 os, .int .i64 op, .int .i64 oq, .int .u8 sd, .int .i64 pp, .int .i64 num] 84)
    go_enter Try.func30, Try.ntmps30
    go_wp2_with fail
    refine (H.out _ (by repeat' (first | (with_reducible exact Only.refl _ _) | (with_reducible assumption) | (refine Only.of_none ?_; with_reducible assumption) | (with_reducible refine Only.drewN ?_ _) | (with_reducible refine Only.drew ?_) | (with_reducible refine Only.alloc ?_ _) | (with_reducible refine Only.setCell ?_ ?_ _) | (with_reducible refine Only.then0 ?_ (by with_reducible assumption)) | (with_reducible refine Only.thenN ?_ (by with_reducible assumption) ?_) | (with_reducible refine Only.trans ?_ (by with_reducible assumption)) | (refine .inl ?_; first | rfl | (simp; done) | (simp [Ar.blk]; done)) | (refine .inr ?_; first | omega | (simp; done) | (simp; omega) | exact Only.size (by with_reducible assumption) | (refine Nat.le_trans (Only.size (by with_reducible assumption)) ?_; simp; done))))).mono ?_
    rintro e w1 ⟨rfl, ⟨_, o1⟩, h2⟩
    have H2 := Lib.hid h2
    have zz1 := o1.size
    rw [World.size_alloc] at zz1
    have NX := HX.out.onlyN o1 (Nat.le_refl _)
    have x0 := (NX 0 _ rfl).cell
    have x1 := (NX 1 _ rfl).cell
    have x2 := (NX 2 _ rfl).cell
    have x3 := (NX 3 _ rfl).cell
    have x4 := (NX 4 _ rfl).cell
    have x5 := (NX 5 _ rfl).cell
    have x6 := (NX 6 _ rfl).cell
    have x7 := (NX 7 _ rfl).cell
    have x8 := (NX 8 _ rfl).cell
    have xz := cell_lt x0
    have HX := Lib.hid NX
    clear NX
    clear h2 H
    go_wp2_with fail
    have F1 := Lib.hid (Five.new w1 (.int .i64 0) (.int .i64 0) (.int .u8 0) (.int .i64 0) (.int .i64 0) 54)
    refine (H2.out _ (by repeat' (first | (with_reducible exact Only.refl _ _) | (with_reducible assumption) | (refine Only.of_none ?_; with_reducible assumption) | (with_reducible refine Only.drewN ?_ _) | (with_reducible refine Only.drew ?_) | (with_reducible refine Only.alloc ?_ _) | (with_reducible refine Only.setCell ?_ ?_ _) | (with_reducible refine Only.then0 ?_ (by with_reducible assumption)) | (with_reducible refine Only.thenN ?_ (by with_reducible assumption) ?_) | (with_reducible refine Only.trans ?_ (by with_reducible assumption)) | (refine .inl ?_; first | rfl | (simp; done) | (simp [Ar.blk]; done)) | (refine .inr ?_; first | omega | (simp; done) | (simp; omega) | exact Only.size (by with_reducible assumption) | (refine Nat.le_trans (Only.size (by with_reducible assumption)) ?_; simp; done))))).mono ?_
    rintro e w2 ⟨rfl, p2, oz, o2⟩
    have P2 := Lib.hid p2
    have OZ := Lib.hid oz
    have G := F1.out.onlyN o2 (by omega)
    have y0 := G.c0.cell; have y1 := G.c1.cell; have y2 := G.c2.cell; have y3 := G.c3.cell; have y4 := G.c4.cell; have yz := cell_lt y0
    clear p2 H2 oz G F1
    go_wp2_with fail
    go_returns
    exact ⟨rfl, ⟨_, m, by omega, (P2.out.keep ((Only.refl _ _).alloc _)).top⟩, OZ.out.alloc _⟩
  | some o =>
    obtain ⟨xi, xc, xs, xp, xq⟩ := o
    have hv : remV l num = .tuple #[.agg #[.int .i64 xi, .int .i64 xc, .int .u8 xs, .int .i64 xp, .int .i64 xq], .int .i64 0] := by unfold remV; rw [hg]; rfl
    have H := Lib.hid fun W (o : Only (fun _ => False) w W) => TwoB.at o (show TwoB Z w.heap.size 28 64 #[.pointer (some ⟨b, 0, none⟩), .int .i64 num] #[.pointer (some ⟨r, 0, none⟩), .int .i64 num] (.tuple #[.agg #[.int .i64 xi, .int .i64 xc, .int .u8 xs, .int .i64 xp, .int .i64 xq], .int .i64 0]) (fun w' => BD Z B0 b r bo most room m (remS l num) w'.heap.size w') W from twoB_turn hZ (h.keep o) o.size (fun k => hv ▸ bk_remove k num hwn) (fun k => hv ▸ r6_remove k g num))
    clear h hZ hg g
    have HX := Lib.hid (Nine.new w #[.int .i64 2, .int .i64 oi, .int .i64 oc, .int .u8 os, .int .i64 op, .int .i64 oq, .int .u8 sd, .int .i64 pp, .int .i64 num] 84)
    go_enter Try.func30, Try.ntmps30
    go_wp2_with fail
    refine (H.out _ (by repeat' (first | (with_reducible exact Only.refl _ _) | (with_reducible assumption) | (refine Only.of_none ?_; with_reducible assumption) | (with_reducible refine Only.drewN ?_ _) | (with_reducible refine Only.drew ?_) | (with_reducible refine Only.alloc ?_ _) | (with_reducible refine Only.setCell ?_ ?_ _) | (with_reducible refine Only.then0 ?_ (by with_reducible assumption)) | (with_reducible refine Only.thenN ?_ (by with_reducible assumption) ?_) | (with_reducible refine Only.trans ?_ (by with_reducible assumption)) | (refine .inl ?_; first | rfl | (simp; done) | (simp [Ar.blk]; done)) | (refine .inr ?_; first | omega | (simp; done) | (simp; omega) | exact Only.size (by with_reducible assumption) | (refine Nat.le_trans (Only.size (by with_reducible assumption)) ?_; simp; done))))).mono ?_
    rintro e w1 ⟨rfl, ⟨_, o1⟩, h2⟩
    have H2 := Lib.hid h2
    have zz1 := o1.size
    rw [World.size_alloc] at zz1
    have NX := HX.out.onlyN o1 (Nat.le_refl _)
    have x0 := (NX 0 _ rfl).cell
    have x1 := (NX 1 _ rfl).cell
    have x2 := (NX 2 _ rfl).cell
    have x3 := (NX 3 _ rfl).cell
    have x4 := (NX 4 _ rfl).cell
    have x5 := (NX 5 _ rfl).cell
    have x6 := (NX 6 _ rfl).cell
    have x7 := (NX 7 _ rfl).cell
    have x8 := (NX 8 _ rfl).cell
    have xz := cell_lt x0
    have HX := Lib.hid NX
    clear NX
    clear h2 H
    go_wp2_with fail
    have F1 := Lib.hid (Five.new w1 (.int .i64 xi) (.int .i64 xc) (.int .u8 xs) (.int .i64 xp) (.int .i64 xq) 54)
    refine (H2.out _ (by repeat' (first | (with_reducible exact Only.refl _ _) | (with_reducible assumption) | (refine Only.of_none ?_; with_reducible assumption) | (with_reducible refine Only.drewN ?_ _) | (with_reducible refine Only.drew ?_) | (with_reducible refine Only.alloc ?_ _) | (with_reducible refine Only.setCell ?_ ?_ _) | (with_reducible refine Only.then0 ?_ (by with_reducible assumption)) | (with_reducible refine Only.thenN ?_ (by with_reducible assumption) ?_) | (with_reducible refine Only.trans ?_ (by with_reducible assumption)) | (refine .inl ?_; first | rfl | (simp; done) | (simp [Ar.blk]; done)) | (refine .inr ?_; first | omega | (simp; done) | (simp; omega) | exact Only.size (by with_reducible assumption) | (refine Nat.le_trans (Only.size (by with_reducible assumption)) ?_; simp; done))))).mono ?_
    rintro e w2 ⟨rfl, p2, oz, o2⟩
    have P2 := Lib.hid p2
    have OZ := Lib.hid oz
    have G := F1.out.onlyN o2 (by omega)
    have y0 := G.c0.cell; have y1 := G.c1.cell; have y2 := G.c2.cell; have y3 := G.c3.cell; have y4 := G.c4.cell; have yz := cell_lt y0
    clear p2 H2 oz G F1
    go_wp2_with fail
    go_returns
    exact ⟨rfl, ⟨_, m, by omega, (P2.out.keep ((Only.refl _ _).alloc _)).top⟩, OZ.out.alloc _⟩
set_option maxRecDepth 100000 in
set_option maxHeartbeats 4000000 in
theorem does_get (h : BD Z B0 b r bo most room m l w.heap.size w) (oi oc os op oq sd pp num : Int) (hwi : Wf oi) (hwn : Wf num) :
    Calls Try.prog 30 #[.pointer (some ⟨b, 0, none⟩), .pointer (some ⟨r, 0, none⟩), .pointer (some ⟨bo, 0, none⟩), .agg #[.int .i64 4, .int .i64 oi, .int .i64 oc, .int .u8 os, .int .i64 op, .int .i64 oq, .int .u8 sd, .int .i64 pp, .int .i64 num]] w (DPost Z B0 b r bo most room m w) := by
  have _ := hZ
  have g := h.good
  cases hg : getL l num with
  | none =>
    have hv : getV l num = .tuple #[.agg #[.int .i64 0, .int .i64 0, .int .u8 0, .int .i64 0, .int .i64 0], .bool false] := by unfold getV; rw [hg]; rfl
    have H := Lib.hid fun W (o : Only (fun _ => False) w W) => TwoB.at o (show TwoB Z w.heap.size 32 66 #[.pointer (some ⟨b, 0, none⟩), .int .i64 num] #[.pointer (some ⟨r, 0, none⟩), .int .i64 num] (.tuple #[.agg #[.int .i64 0, .int .i64 0, .int .u8 0, .int .i64 0, .int .i64 0], .bool false]) (fun w' => BD Z B0 b r bo most room m l w'.heap.size w') W from twoB_calm (h.keep o) (fun k => hv ▸ bk_get k num hwn) (fun k => hv ▸ r6_get k (fun q => by have := g.le q; omega) num))
    clear h hZ hg g
    have HX := Lib.hid (Nine.new w #[.int .i64 4, .int .i64 oi, .int .i64 oc, .int .u8 os, .int .i64 op, .int .i64 oq, .int .u8 sd, .int .i64 pp, .int .i64 num] 84)
    go_enter Try.func30, Try.ntmps30
    go_wp2_with fail
    refine (H.out _ (by repeat' (first | (with_reducible exact Only.refl _ _) | (with_reducible assumption) | (refine Only.of_none ?_; with_reducible assumption) | (with_reducible refine Only.drewN ?_ _) | (with_reducible refine Only.drew ?_) | (with_reducible refine Only.alloc ?_ _) | (with_reducible refine Only.setCell ?_ ?_ _) | (with_reducible refine Only.then0 ?_ (by with_reducible assumption)) | (with_reducible refine Only.thenN ?_ (by with_reducible assumption) ?_) | (with_reducible refine Only.trans ?_ (by with_reducible assumption)) | (refine .inl ?_; first | rfl | (simp; done) | (simp [Ar.blk]; done)) | (refine .inr ?_; first | omega | (simp; done) | (simp; omega) | exact Only.size (by with_reducible assumption) | (refine Nat.le_trans (Only.size (by with_reducible assumption)) ?_; simp; done))))).mono ?_
    rintro e w1 ⟨rfl, ⟨_, o1⟩, h2⟩
    have H2 := Lib.hid h2
    have zz1 := o1.size
    rw [World.size_alloc] at zz1
    have NX := HX.out.onlyN o1 (Nat.le_refl _)
    have x0 := (NX 0 _ rfl).cell
    have x1 := (NX 1 _ rfl).cell
    have x2 := (NX 2 _ rfl).cell
    have x3 := (NX 3 _ rfl).cell
    have x4 := (NX 4 _ rfl).cell
    have x5 := (NX 5 _ rfl).cell
    have x6 := (NX 6 _ rfl).cell
    have x7 := (NX 7 _ rfl).cell
    have x8 := (NX 8 _ rfl).cell
    have xz := cell_lt x0
    have HX := Lib.hid NX
    clear NX
    clear h2 H
    go_wp2_with fail
    have F1 := Lib.hid (Five.new w1 (.int .i64 0) (.int .i64 0) (.int .u8 0) (.int .i64 0) (.int .i64 0) 54)
    refine (H2.out _ (by repeat' (first | (with_reducible exact Only.refl _ _) | (with_reducible assumption) | (refine Only.of_none ?_; with_reducible assumption) | (with_reducible refine Only.drewN ?_ _) | (with_reducible refine Only.drew ?_) | (with_reducible refine Only.alloc ?_ _) | (with_reducible refine Only.setCell ?_ ?_ _) | (with_reducible refine Only.then0 ?_ (by with_reducible assumption)) | (with_reducible refine Only.thenN ?_ (by with_reducible assumption) ?_) | (with_reducible refine Only.trans ?_ (by with_reducible assumption)) | (refine .inl ?_; first | rfl | (simp; done) | (simp [Ar.blk]; done)) | (refine .inr ?_; first | omega | (simp; done) | (simp; omega) | exact Only.size (by with_reducible assumption) | (refine Nat.le_trans (Only.size (by with_reducible assumption)) ?_; simp; done))))).mono ?_
    rintro e w2 ⟨rfl, p2, oz, o2⟩
    have P2 := Lib.hid p2
    have OZ := Lib.hid oz
    have G := F1.out.onlyN o2 (by omega)
    have y0 := G.c0.cell; have y1 := G.c1.cell; have y2 := G.c2.cell; have y3 := G.c3.cell; have y4 := G.c4.cell; have yz := cell_lt y0
    clear p2 H2 oz G F1
    go_wp2_with fail
    go_returns
    exact ⟨rfl, ⟨_, m, by omega, (P2.out.keep ((Only.refl _ _).alloc _)).top⟩, OZ.out.alloc _⟩
  | some o =>
    obtain ⟨xi, xc, xs, xp, xq⟩ := o
    have hv : getV l num = .tuple #[.agg #[.int .i64 xi, .int .i64 xc, .int .u8 xs, .int .i64 xp, .int .i64 xq], .bool true] := by unfold getV; rw [hg]; rfl
    have H := Lib.hid fun W (o : Only (fun _ => False) w W) => TwoB.at o (show TwoB Z w.heap.size 32 66 #[.pointer (some ⟨b, 0, none⟩), .int .i64 num] #[.pointer (some ⟨r, 0, none⟩), .int .i64 num] (.tuple #[.agg #[.int .i64 xi, .int .i64 xc, .int .u8 xs, .int .i64 xp, .int .i64 xq], .bool true]) (fun w' => BD Z B0 b r bo most room m l w'.heap.size w') W from twoB_calm (h.keep o) (fun k => hv ▸ bk_get k num hwn) (fun k => hv ▸ r6_get k (fun q => by have := g.le q; omega) num))
    clear h hZ hg g
    have HX := Lib.hid (Nine.new w #[.int .i64 4, .int .i64 oi, .int .i64 oc, .int .u8 os, .int .i64 op, .int .i64 oq, .int .u8 sd, .int .i64 pp, .int .i64 num] 84)
    go_enter Try.func30, Try.ntmps30
    go_wp2_with fail
    refine (H.out _ (by repeat' (first | (with_reducible exact Only.refl _ _) | (with_reducible assumption) | (refine Only.of_none ?_; with_reducible assumption) | (with_reducible refine Only.drewN ?_ _) | (with_reducible refine Only.drew ?_) | (with_reducible refine Only.alloc ?_ _) | (with_reducible refine Only.setCell ?_ ?_ _) | (with_reducible refine Only.then0 ?_ (by with_reducible assumption)) | (with_reducible refine Only.thenN ?_ (by with_reducible assumption) ?_) | (with_reducible refine Only.trans ?_ (by with_reducible assumption)) | (refine .inl ?_; first | rfl | (simp; done) | (simp [Ar.blk]; done)) | (refine .inr ?_; first | omega | (simp; done) | (simp; omega) | exact Only.size (by with_reducible assumption) | (refine Nat.le_trans (Only.size (by with_reducible assumption)) ?_; simp; done))))).mono ?_
    rintro e w1 ⟨rfl, ⟨_, o1⟩, h2⟩
    have H2 := Lib.hid h2
    have zz1 := o1.size
    rw [World.size_alloc] at zz1
    have NX := HX.out.onlyN o1 (Nat.le_refl _)
    have x0 := (NX 0 _ rfl).cell
    have x1 := (NX 1 _ rfl).cell
    have x2 := (NX 2 _ rfl).cell
    have x3 := (NX 3 _ rfl).cell
    have x4 := (NX 4 _ rfl).cell
    have x5 := (NX 5 _ rfl).cell
    have x6 := (NX 6 _ rfl).cell
    have x7 := (NX 7 _ rfl).cell
    have x8 := (NX 8 _ rfl).cell
    have xz := cell_lt x0
    have HX := Lib.hid NX
    clear NX
    clear h2 H
    go_wp2_with fail
    have F1 := Lib.hid (Five.new w1 (.int .i64 xi) (.int .i64 xc) (.int .u8 xs) (.int .i64 xp) (.int .i64 xq) 54)
    refine (H2.out _ (by repeat' (first | (with_reducible exact Only.refl _ _) | (with_reducible assumption) | (refine Only.of_none ?_; with_reducible assumption) | (with_reducible refine Only.drewN ?_ _) | (with_reducible refine Only.drew ?_) | (with_reducible refine Only.alloc ?_ _) | (with_reducible refine Only.setCell ?_ ?_ _) | (with_reducible refine Only.then0 ?_ (by with_reducible assumption)) | (with_reducible refine Only.thenN ?_ (by with_reducible assumption) ?_) | (with_reducible refine Only.trans ?_ (by with_reducible assumption)) | (refine .inl ?_; first | rfl | (simp; done) | (simp [Ar.blk]; done)) | (refine .inr ?_; first | omega | (simp; done) | (simp; omega) | exact Only.size (by with_reducible assumption) | (refine Nat.le_trans (Only.size (by with_reducible assumption)) ?_; simp; done))))).mono ?_
    rintro e w2 ⟨rfl, p2, oz, o2⟩
    have P2 := Lib.hid p2
    have OZ := Lib.hid oz
    have G := F1.out.onlyN o2 (by omega)
    have y0 := G.c0.cell; have y1 := G.c1.cell; have y2 := G.c2.cell; have y3 := G.c3.cell; have y4 := G.c4.cell; have yz := cell_lt y0
    clear p2 H2 oz G F1
    go_wp2_with fail
    go_returns
    exact ⟨rfl, ⟨_, m, by omega, (P2.out.keep ((Only.refl _ _).alloc _)).top⟩, OZ.out.alloc _⟩
end
end Go.Proofs.Ytkglplngnjgnhaa
