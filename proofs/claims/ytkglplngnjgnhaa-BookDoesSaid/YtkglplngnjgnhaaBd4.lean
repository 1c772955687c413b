/- BookDoes: one call of both: Depth, Facing; any call. Conditions: both as their News lay them, and since called alike. -/
import Derived.Test.YtkglplngnjgnhaaBd3
namespace Go.Proofs.Ytkglplngnjgnhaa
set_option linter.unusedVariables false
set_option linter.unusedSimpArgs false
open Go.RowKit Go.Shelf
open Od (OrdR)

section
theorem LvlAt.of_slice {w : World} {base : Nat} {e : TypeId} {va : Option Addr} {cap : Nat} {l : List LvR} (h : w.ownsRow base e 3 (.slice va l.length cap) l.length (lvlC l)) : LvlAt w va l := by
  obtain ⟨va', cap', hv, _, ho⟩ := LvlAt.of_own h
  injection hv with e1 e2 e3
  rw [e1]; exact ho
variable {Z : Nat → Prop} {B0 b r bo most room m : Nat} {l : Bool → List OrdR} {w : World}
/-- Facing of the document's, and then the book's own. -/
theorem BD.facing {N : Nat} (h : BD Z B0 b r bo most room m l N w) (sd pp : Int) :
    Calls Try.prog 71 #[.pointer (some ⟨r, 0, none⟩), .int .u8 sd, .int .i64 pp] w fun e w1 => ∃ va ca n, e = .returned (.slice va n ca) ∧ Only (fun _ => False) w w1 ∧
      ∀ W, Only (fun _ => False) w1 W → Calls Try.prog 72 #[.pointer (some ⟨b, 0, none⟩), .int .u8 sd, .int .i64 pp, .slice va n ca] W fun e w2 => e = .returned (.bool true) ∧ Only (fun _ => False) W w2 := by
  obtain ⟨h0, T, T6, TO, k1, k2, k3, k4, k5, k6⟩ := h
  obtain ⟨vv, q, rfl⟩ := k2
  refine (d_facing q k1.good sd pp).mono fun e w1 hp => ?_
  obtain ⟨v, he, hv, o1⟩ := hp
  obtain ⟨va, ca, rfl, _, hat⟩ := OrdAt.of_own hv
  exact ⟨va, ca, _, he, o1, fun W oW => bk_facing (k1.only (o1.trans oW) fun _ _ => id) sd pp (hat.only oW fun _ _ => id)⟩
/-- Depth of both, beside one another; the first's into the owner's book. -/
theorem BD.depth {N : Nat} (h : BD Z B0 b r bo most room m l N w) (sd num : Int) (hw : Wf num) :
    Calls Try.prog 35 #[.pointer (some ⟨b, 0, none⟩), .int .u8 sd, .int .i64 num] w fun e w1 => ∃ va ca, e = .returned (.slice va (depS l sd num).length ca) ∧ Only (fun _ => False) w w1 ∧ w1.ownsRow w.heap.size 94 3 (.slice va (depS l sd num).length ca) (depS l sd num).length (lvlC (depS l sd num)) :=
  by
  obtain ⟨h0, T, T6, TO, k1, k2, k3, k4, k5, k6⟩ := h
  refine (b_depth k1 sd num hw).mono fun e w1 hp => ?_
  obtain ⟨v, he, hv, o1⟩ := hp
  obtain ⟨va, ca, rfl, _, _⟩ := LvlAt.of_own hv
  exact ⟨va, ca, he, o1, hv⟩
theorem BD.depth2 {N : Nat} (h : BD Z B0 b r bo most room m l N w) (sd num : Int) :
    Calls Try.prog 68 #[.pointer (some ⟨r, 0, none⟩), .int .u8 sd, .int .i64 num] w fun e w1 => ∃ va ca, e = .returned (.slice va (depS l sd num).length ca) ∧ Only (fun _ => False) w w1 ∧ LvlAt w1 va (depS l sd num) := by
  obtain ⟨h0, T, T6, TO, k1, k2, k3, k4, k5, k6⟩ := h
  obtain ⟨vv, q, rfl⟩ := k2
  refine (d_depth q k1.good sd num).mono fun e w1 hp => ?_
  obtain ⟨v, he, hv, o1⟩ := hp
  obtain ⟨va, ca, rfl, _, hat⟩ := LvlAt.of_own hv
  exact ⟨va, ca, he, o1, hat⟩
variable (hZ : ∀ i, B0 ≤ i → Z i)
include hZ
/-- A fresh list into the owner's book. -/
theorem BD.put {N : Nat} (h : BD Z B0 b r bo most room m l N w) (hN : N ≤ w.heap.size) (hB : B0 ≤ N) (hm : m < 2000000000000) {xa : Option Addr} {xn xc : Nat} {xs : List Value} (hx : w.ownsRow N 94 3 (.slice xa xn xc) xn xs) (hn : xn ≤ 256) :
    Calls Try.prog 70 #[.pointer (some ⟨bo, 0, none⟩), .slice xa xn xc] w fun e w' => e = .returned (.tuple #[]) ∧ BD Z B0 b r bo most room (m + 1) l w'.heap.size w' ∧ Only Z w w' := by
  obtain ⟨h0, T, T6, TO, k1, k2, k3, k4, k5, k6⟩ := h
  refine (OwL.ow_put k3 hm (ownsRow_base hx (Nat.zero_le _)) (by omega) (fun g hg hb => by have := (hx.lt g hg).1; have := (k6 g hb).2; omega)).mono fun e w' hp => ?_
  obtain ⟨TO', he, q3, o, g⟩ := hp
  have z := o.size
  have n3 : ∀ i, TO' i → TO i ∨ N ≤ i := fun i hi => by
    rcases g i hi with h | h | h
    · exact .inl h
    · exact .inr (hx.lt i h).1
    · exact .inr (by omega)
  have lt3 := q3.lt
  refine ⟨he, ⟨by omega, T, T6, TO', k1.only o (fun i hi hb => (k4 i hi).2.2 hb), k2.only o (fun i hi hb => (k5 i hi).2 hb), q3, fun i hi => ?_, fun i hi => ?_, fun i hi => ?_⟩, o.mono fun i _ hi => (k6 i hi).1⟩
  · have := k4 i hi
    refine ⟨⟨this.1.1, by omega⟩, this.2.1, fun hb => ?_⟩
    rcases n3 i hb with h | h
    · exact this.2.2 h
    · omega
  · have := k5 i hi
    refine ⟨⟨this.1.1, by omega⟩, fun hb => ?_⟩
    rcases n3 i hb with h | h
    · exact this.2 h
    · omega
  · have hl := lt3 i hi
    rcases n3 i hi with h | h
    · exact ⟨(k6 i h).1, hl⟩
    · refine ⟨?_, hl⟩
      rcases g i hi with h' | h' | h'
      · exact (k6 i h').1
      · exact hZ i (by have := (hx.lt i h').1; omega)
      · exact hZ i (by omega)
set_option maxRecDepth 100000 in
set_option maxHeartbeats 4000000 in
theorem does_facing (hm : m < 2000000000000) (h : BD Z B0 b r bo most room m l w.heap.size w) (oi oc os op oq sd pp num : Int) (hwi : Wf oi) (hwn : Wf num) :
    Calls Try.prog 30 #[.pointer (some ⟨b, 0, none⟩), .pointer (some ⟨r, 0, none⟩), .pointer (some ⟨bo, 0, none⟩), .agg #[.int .i64 7, .int .i64 oi, .int .i64 oc, .int .u8 os, .int .i64 op, .int .i64 oq, .int .u8 sd, .int .i64 pp, .int .i64 num]] w (DPost Z B0 b r bo most room m w) := by
  have _ := hZ
  have H := Lib.hid fun W (o : Only (fun _ => False) w W) => (h.keep o).facing sd pp
  have HE := Lib.hid fun W (o : Only (fun _ => False) w W) => (h.keep o).top
  clear h hZ
  have HX := Lib.hid (Nine.new w #[.int .i64 7, .int .i64 oi, .int .i64 oc, .int .u8 os, .int .i64 op, .int .i64 oq, .int .u8 sd, .int .i64 pp, .int .i64 num] 84)
  go_enter Try.func30, Try.ntmps30
  go_wp2_with fail
  refine (H.out _ (by repeat' (first | (with_reducible exact Only.refl _ _) | (with_reducible assumption) | (refine Only.of_none ?_; with_reducible assumption) | (with_reducible refine Only.drewN ?_ _) | (with_reducible refine Only.drew ?_) | (with_reducible refine Only.alloc ?_ _) | (with_reducible refine Only.setCell ?_ ?_ _) | (with_reducible refine Only.then0 ?_ (by with_reducible assumption)) | (with_reducible refine Only.thenN ?_ (by with_reducible assumption) ?_) | (with_reducible refine Only.trans ?_ (by with_reducible assumption)) | (refine .inl ?_; first | rfl | (simp; done) | (simp [Ar.blk]; done)) | (refine .inr ?_; first | omega | (simp; done) | (simp; omega) | exact Only.size (by with_reducible assumption) | (refine Nat.le_trans (Only.size (by with_reducible assumption)) ?_; simp; done))))).mono ?_
  intro e w1 hp
  obtain ⟨va, ca, n, rfl, o1, h2⟩ := hp
  have NX := HX.out.only o1
  have x0 := (NX 0 _ rfl).cell
  have x1 := (NX 1 _ rfl).cell
  have x2 := (NX 2 _ rfl).cell
  have x3 := (NX 3 _ rfl).cell
  have x4 := (NX 4 _ rfl).cell
  have x5 := (NX 5 _ rfl).cell
  have x6 := (NX 6 _ rfl).cell
  have x7 := (NX 7 _ rfl).cell
  have x8 := (NX 8 _ rfl).cell
  have xz := cell_lt x0
  clear NX
  have H2 := Lib.hid h2
  clear h2 H
  go_wp2_with fail
  refine (H2.out _ (by repeat' (first | (with_reducible exact Only.refl _ _) | (with_reducible assumption) | (refine Only.of_none ?_; with_reducible assumption) | (with_reducible refine Only.drewN ?_ _) | (with_reducible refine Only.drew ?_) | (with_reducible refine Only.alloc ?_ _) | (with_reducible refine Only.setCell ?_ ?_ _) | (with_reducible refine Only.then0 ?_ (by with_reducible assumption)) | (with_reducible refine Only.thenN ?_ (by with_reducible assumption) ?_) | (with_reducible refine Only.trans ?_ (by with_reducible assumption)) | (refine .inl ?_; first | rfl | (simp; done) | (simp [Ar.blk]; done)) | (refine .inr ?_; first | omega | (simp; done) | (simp; omega) | exact Only.size (by with_reducible assumption) | (refine Nat.le_trans (Only.size (by with_reducible assumption)) ?_; simp; done))))).mono ?_
  rintro e w2 ⟨rfl, o2⟩
  go_wp2_with fail
  go_returns
  exact ⟨rfl, ⟨_, m, by omega, HE.out _ (by repeat' (first | (with_reducible exact Only.refl _ _) | (with_reducible assumption) | (refine Only.of_none ?_; with_reducible assumption) | (with_reducible refine Only.drewN ?_ _) | (with_reducible refine Only.drew ?_) | (with_reducible refine Only.alloc ?_ _) | (with_reducible refine Only.setCell ?_ ?_ _) | (with_reducible refine Only.then0 ?_ (by with_reducible assumption)) | (with_reducible refine Only.thenN ?_ (by with_reducible assumption) ?_) | (with_reducible refine Only.trans ?_ (by with_reducible assumption)) | (refine .inl ?_; first | rfl | (simp; done) | (simp [Ar.blk]; done)) | (refine .inr ?_; first | omega | (simp; done) | (simp; omega) | exact Only.size (by with_reducible assumption) | (refine Nat.le_trans (Only.size (by with_reducible assumption)) ?_; simp; done))))⟩, Only.of_none (by repeat' (first | (with_reducible exact Only.refl _ _) | (with_reducible assumption) | (refine Only.of_none ?_; with_reducible assumption) | (with_reducible refine Only.drewN ?_ _) | (with_reducible refine Only.drew ?_) | (with_reducible refine Only.alloc ?_ _) | (with_reducible refine Only.setCell ?_ ?_ _) | (with_reducible refine Only.then0 ?_ (by with_reducible assumption)) | (with_reducible refine Only.thenN ?_ (by with_reducible assumption) ?_) | (with_reducible refine Only.trans ?_ (by with_reducible assumption)) | (refine .inl ?_; first | rfl | (simp; done) | (simp [Ar.blk]; done)) | (refine .inr ?_; first | omega | (simp; done) | (simp; omega) | exact Only.size (by with_reducible assumption) | (refine Nat.le_trans (Only.size (by with_reducible assumption)) ?_; simp; done))))⟩
set_option maxRecDepth 100000 in
set_option maxHeartbeats 4000000 in
theorem does_depth (hm : m < 2000000000000) (h : BD Z B0 b r bo most room m l w.heap.size w) (oi oc os op oq sd pp num : Int) (hwi : Wf oi) (hwn : Wf num) :
    Calls Try.prog 30 #[.pointer (some ⟨b, 0, none⟩), .pointer (some ⟨r, 0, none⟩), .pointer (some ⟨bo, 0, none⟩), .agg #[.int .i64 6, .int .i64 oi, .int .i64 oc, .int .u8 os, .int .i64 op, .int .i64 oq, .int .u8 sd, .int .i64 pp, .int .i64 num]] w (DPost Z B0 b r bo most room m w) := by
  have _ := hZ
  have h0 := h.1
  have H := Lib.hid fun W (o : Only (fun _ => False) w W) => (h.keep o).depth sd num hwn
  have H2 := Lib.hid fun W (o : Only (fun _ => False) w W) => (h.keep o).depth2 sd num
  have HS := Lib.hid fun W va vb ca cb (ha : LvlAt W va (depS l sd num)) (hb : LvlAt W vb (depS l sd num)) => k_sameL W (depS l sd num) va vb ca cb (by have := depS_len h.good sd num; omega) ha hb
  have HN := Lib.hid (depS_len h.good sd num)
  have HP := Lib.hid fun W (o : Only (fun _ => False) w W) xa xc (hx : W.ownsRow w.heap.size 94 3 (.slice xa (depS l sd num).length xc) (depS l sd num).length (lvlC (depS l sd num))) => BD.put hZ (h.keep o) o.size h0 hm hx (depS_len h.good sd num)
  obtain ⟨D, hD⟩ : ∃ D, depS l sd num = D := ⟨_, rfl⟩
  rw [hD] at H H2 HS HN HP
  clear h hZ hD
  have HX := Lib.hid (Nine.new w #[.int .i64 6, .int .i64 oi, .int .i64 oc, .int .u8 os, .int .i64 op, .int .i64 oq, .int .u8 sd, .int .i64 pp, .int .i64 num] 84)
  go_enter Try.func30, Try.ntmps30
  go_wp2_with fail
  refine (H.out _ (by repeat' (first | (with_reducible exact Only.refl _ _) | (with_reducible assumption) | (refine Only.of_none ?_; with_reducible assumption) | (with_reducible refine Only.drewN ?_ _) | (with_reducible refine Only.drew ?_) | (with_reducible refine Only.alloc ?_ _) | (with_reducible refine Only.setCell ?_ ?_ _) | (with_reducible refine Only.then0 ?_ (by with_reducible assumption)) | (with_reducible refine Only.thenN ?_ (by with_reducible assumption) ?_) | (with_reducible refine Only.trans ?_ (by with_reducible assumption)) | (refine .inl ?_; first | rfl | (simp; done) | (simp [Ar.blk]; done)) | (refine .inr ?_; first | omega | (simp; done) | (simp; omega) | exact Only.size (by with_reducible assumption) | (refine Nat.le_trans (Only.size (by with_reducible assumption)) ?_; simp; done))))).mono ?_
  intro e w1 hp
  obtain ⟨va, ca, rfl, o1, hx⟩ := hp
  have NX := HX.out.only o1
  have x0 := (NX 0 _ rfl).cell
  have x1 := (NX 1 _ rfl).cell
  have x2 := (NX 2 _ rfl).cell
  have x3 := (NX 3 _ rfl).cell
  have x4 := (NX 4 _ rfl).cell
  have x5 := (NX 5 _ rfl).cell
  have x6 := (NX 6 _ rfl).cell
  have x7 := (NX 7 _ rfl).cell
  have x8 := (NX 8 _ rfl).cell
  have xz := cell_lt x0
  clear NX
  have hx := Lib.hid (ownsRow_base hx (Only.size (show Only (fun _ => False) w _ by repeat' (first | (with_reducible exact Only.refl _ _) | (with_reducible assumption) | (refine Only.of_none ?_; with_reducible assumption) | (with_reducible refine Only.drewN ?_ _) | (with_reducible refine Only.drew ?_) | (with_reducible refine Only.alloc ?_ _) | (with_reducible refine Only.setCell ?_ ?_ _) | (with_reducible refine Only.then0 ?_ (by with_reducible assumption)) | (with_reducible refine Only.thenN ?_ (by with_reducible assumption) ?_) | (with_reducible refine Only.trans ?_ (by with_reducible assumption)) | (refine .inl ?_; first | rfl | (simp; done) | (simp [Ar.blk]; done)) | (refine .inr ?_; first | omega | (simp; done) | (simp; omega) | exact Only.size (by with_reducible assumption) | (refine Nat.le_trans (Only.size (by with_reducible assumption)) ?_; simp; done))))))
  go_wp2_with fail
  refine (H2.out _ (by repeat' (first | (with_reducible exact Only.refl _ _) | (with_reducible assumption) | (refine Only.of_none ?_; with_reducible assumption) | (with_reducible refine Only.drewN ?_ _) | (with_reducible refine Only.drew ?_) | (with_reducible refine Only.alloc ?_ _) | (with_reducible refine Only.setCell ?_ ?_ _) | (with_reducible refine Only.then0 ?_ (by with_reducible assumption)) | (with_reducible refine Only.thenN ?_ (by with_reducible assumption) ?_) | (with_reducible refine Only.trans ?_ (by with_reducible assumption)) | (refine .inl ?_; first | rfl | (simp; done) | (simp [Ar.blk]; done)) | (refine .inr ?_; first | omega | (simp; done) | (simp; omega) | exact Only.size (by with_reducible assumption) | (refine Nat.le_trans (Only.size (by with_reducible assumption)) ?_; simp; done))))).mono ?_
  intro e w2 hp
  obtain ⟨vb, cb, rfl, o2, hb⟩ := hp
  have HB := Lib.hid hb
  have hx := Lib.hid (ownsRow_apart hx.out (show Only (fun _ => False) w1 w2 by repeat' (first | (with_reducible exact Only.refl _ _) | (with_reducible assumption) | (refine Only.of_none ?_; with_reducible assumption) | (with_reducible refine Only.drewN ?_ _) | (with_reducible refine Only.drew ?_) | (with_reducible refine Only.alloc ?_ _) | (with_reducible refine Only.setCell ?_ ?_ _) | (with_reducible refine Only.then0 ?_ (by with_reducible assumption)) | (with_reducible refine Only.thenN ?_ (by with_reducible assumption) ?_) | (with_reducible refine Only.trans ?_ (by with_reducible assumption)) | (refine .inl ?_; first | rfl | (simp; done) | (simp [Ar.blk]; done)) | (refine .inr ?_; first | omega | (simp; done) | (simp; omega) | exact Only.size (by with_reducible assumption) | (refine Nat.le_trans (Only.size (by with_reducible assumption)) ?_; simp; done)))) (fun _ _ => id))
  have HA := Lib.hid (LvlAt.of_slice hx.out)
  clear hb
  go_wp2_with fail
  refine (HS.out _ va vb ca cb HA.out HB.out).mono ?_
  rintro e w3 ⟨rfl, o3⟩
  have hx := Lib.hid (ownsRow_apart hx.out o3 (fun _ _ => id))
  go_wp2_with fail
  refine (HP.out _ (by repeat' (first | (with_reducible exact Only.refl _ _) | (with_reducible assumption) | (refine Only.of_none ?_; with_reducible assumption) | (with_reducible refine Only.drewN ?_ _) | (with_reducible refine Only.drew ?_) | (with_reducible refine Only.alloc ?_ _) | (with_reducible refine Only.setCell ?_ ?_ _) | (with_reducible refine Only.then0 ?_ (by with_reducible assumption)) | (with_reducible refine Only.thenN ?_ (by with_reducible assumption) ?_) | (with_reducible refine Only.trans ?_ (by with_reducible assumption)) | (refine .inl ?_; first | rfl | (simp; done) | (simp [Ar.blk]; done)) | (refine .inr ?_; first | omega | (simp; done) | (simp; omega) | exact Only.size (by with_reducible assumption) | (refine Nat.le_trans (Only.size (by with_reducible assumption)) ?_; simp; done)))) va ca hx.out).mono ?_
  rintro e w4 ⟨rfl, p4, o4⟩
  have P4 := Lib.hid p4
  have O3 := Lib.hid (show Only (fun _ => False) w w3 by repeat' (first | (with_reducible exact Only.refl _ _) | (with_reducible assumption) | (refine Only.of_none ?_; with_reducible assumption) | (with_reducible refine Only.drewN ?_ _) | (with_reducible refine Only.drew ?_) | (with_reducible refine Only.alloc ?_ _) | (with_reducible refine Only.setCell ?_ ?_ _) | (with_reducible refine Only.then0 ?_ (by with_reducible assumption)) | (with_reducible refine Only.thenN ?_ (by with_reducible assumption) ?_) | (with_reducible refine Only.trans ?_ (by with_reducible assumption)) | (refine .inl ?_; first | rfl | (simp; done) | (simp [Ar.blk]; done)) | (refine .inr ?_; first | omega | (simp; done) | (simp; omega) | exact Only.size (by with_reducible assumption) | (refine Nat.le_trans (Only.size (by with_reducible assumption)) ?_; simp; done))))
  have O4 := Lib.hid o4
  clear p4 o4
  go_wp2_with fail
  go_returns
  exact ⟨rfl, ⟨_, m + 1, by omega, P4.out⟩, (Only.of_none O3.out).trans O4.out⟩
/-- Any call. -/
theorem s_does6 (hm : m < 2000000000000) (h : BD Z B0 b r bo most room m l w.heap.size w) (kind oi oc os op oq sd pp num : Int) (hwi : Wf oi) (hwn : Wf num) :
    Calls Try.prog 30 #[.pointer (some ⟨b, 0, none⟩), .pointer (some ⟨r, 0, none⟩), .pointer (some ⟨bo, 0, none⟩), .agg #[.int .i64 kind, .int .i64 oi, .int .i64 oc, .int .u8 os, .int .i64 op, .int .i64 oq, .int .u8 sd, .int .i64 pp, .int .i64 num]] w (DPost Z B0 b r bo most room m w) := by
  by_cases h1 : kind = 1
  · subst h1; exact does_insert hZ h oi oc os op oq sd pp num hwi hwn
  by_cases h2 : kind = 2
  · subst h2; exact does_remove hZ h oi oc os op oq sd pp num hwi hwn
  by_cases h3 : kind = 3
  · subst h3; exact does_reduce hZ h oi oc os op oq sd pp num hwi hwn
  by_cases h4 : kind = 4
  · subst h4; exact does_get hZ h oi oc os op oq sd pp num hwi hwn
  by_cases h5 : kind = 5
  · subst h5; exact does_best hZ h oi oc os op oq sd pp num hwi hwn
  by_cases h6 : kind = 6
  · subst h6; exact does_depth hZ hm h oi oc os op oq sd pp num hwi hwn
  by_cases h7 : kind = 7
  · subst h7; exact does_facing hZ hm h oi oc os op oq sd pp num hwi hwn
  by_cases h8 : kind = 8
  · subst h8; exact does_fits hZ h oi oc os op oq sd pp num hwi hwn
  by_cases h9 : kind = 9
  · subst h9; exact does_open hZ h oi oc os op oq sd pp num hwi hwn
  by_cases h10 : kind = 10
  · subst h10; exact does_prices hZ h oi oc os op oq sd pp num hwi hwn
  exact does_looks hZ h kind oi oc os op oq sd pp num (by omega)
end
end Go.Proofs.Ytkglplngnjgnhaa
