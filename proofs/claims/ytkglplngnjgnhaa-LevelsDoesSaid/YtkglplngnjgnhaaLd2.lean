/- LevelsDoes: one call of both. Conditions: both as their News lay them, and since called alike. -/
import Derived.Test.YtkglplngnjgnhaaLd1
namespace Go.Proofs.Ytkglplngnjgnhaa
set_option linter.unusedVariables false
set_option linter.unusedSimpArgs false
open Go.RowKit

/-- Both answer alike, and hold the same. -/
def DoesPost (Z : Nat → Prop) (B0 b gu rb most : Nat) (sd sg : Int) (w : World) (e : Ending) (w' : World) : Prop := e = .returned (.bool true) ∧ Pair Z B0 b gu rb most sd sg w'.heap.size w' ∧ Only Z w w'

/-- What the first call leaves of the call's own box. -/
theorem box_cells {Z : Nat → Prop} {w w1 : World} {k p n : Int} (o : Only (fun i => Z i ∧ i < w.heap.size) (w.alloc (.cells #[.int .i64 k, .int .i64 p, .int .i64 n] 48)) w1) :
    w1.cell? ⟨w.heap.size, 1, none⟩ = some (.int .i64 p) ∧ w1.cell? ⟨w.heap.size, 2, none⟩ = some (.int .i64 n) :=
  ⟨o.cell (by simp) (fun h => Nat.lt_irrefl _ h.2), o.cell (by simp) (fun h => Nat.lt_irrefl _ h.2)⟩

section
variable {Z : Nat → Prop} {B0 b gu rb most : Nat} {sd sg : Int}
theorem two_fin (w : World) {N : Nat} {w1 w2 : World} (o1 : Only (fun i => Z i ∧ i < N) w w1) (hP : Pair Z B0 b gu rb most sd sg w2.heap.size w2) (o2 : Only Z w1 w2) : DoesPost Z B0 b gu rb most sd sg w (.returned (.bool true)) w2 :=
  ⟨rfl, hP, (o1.mono fun _ _ h => h.1).trans o2⟩
theorem fin0 (w : World) (h : Pair Z B0 b gu rb most sd sg w.heap.size w) {w2 : World} (o : Only (fun _ => False) w w2) : DoesPost Z B0 b gu rb most sd sg w (.returned (.bool true)) w2 := ⟨rfl, (h.keep o).top, Only.of_none o⟩
variable (hZ : ∀ i, B0 ≤ i → Z i) (w : World) (h : Pair Z B0 b gu rb most sd sg w.heap.size w)
include hZ h

set_option maxRecDepth 100000 in
theorem does_add (p n : Int) : Calls Try.prog 19 #[.pointer (some ⟨b, 0, none⟩), .pointer (some ⟨rb, 0, none⟩), .agg #[.int .i64 1, .int .i64 p, .int .i64 n]] w (DoesPost Z B0 b gu rb most sd sg w) := by
  have hP := h.keep ((Only.refl (fun _ => False) w).alloc (.cells #[.int .i64 1, .int .i64 p, .int .i64 n] 48))
  obtain ⟨x, y, h2⟩ := two_add hZ _ hP p
  have H2 := Lib.hid h2
  have HF := Lib.hid (fun w1 w2 => two_fin (Z := Z) (B0 := B0) (b := b) (gu := gu) (rb := rb) (most := most) (sd := sd) (sg := sg) (N := w.heap.size) (w1 := w1) (w2 := w2) w)
  clear h hZ hP h2
  go_enter Try.func19, Try.ntmps19
  go_wp2_with fail
  refine H2.out.mono ?_
  rintro e w1 ⟨rfl, o1, h3⟩
  obtain ⟨c1, c2⟩ := box_cells o1
  have H3 := Lib.hid h3
  clear h3
  go_wp2_with fail
  refine H3.out.mono ?_
  rintro e w2 ⟨rfl, p2, o2⟩
  have P2 := Lib.hid p2
  clear p2 H2 H3
  go_wp2_with fail
  go_returns
  exact HF.out w1 w2 ((Only.of_none ((Only.refl (fun _ => False) w).alloc _)).trans o1) P2.out o2
set_option maxRecDepth 100000 in
theorem does_drop (p n : Int) : Calls Try.prog 19 #[.pointer (some ⟨b, 0, none⟩), .pointer (some ⟨rb, 0, none⟩), .agg #[.int .i64 2, .int .i64 p, .int .i64 n]] w (DoesPost Z B0 b gu rb most sd sg w) := by
  have hP := h.keep ((Only.refl (fun _ => False) w).alloc (.cells #[.int .i64 2, .int .i64 p, .int .i64 n] 48))
  obtain ⟨x, h2⟩ := two_drop hZ _ hP p
  have H2 := Lib.hid h2
  have HF := Lib.hid (fun w1 w2 => two_fin (Z := Z) (B0 := B0) (b := b) (gu := gu) (rb := rb) (most := most) (sd := sd) (sg := sg) (N := w.heap.size) (w1 := w1) (w2 := w2) w)
  clear h hZ hP h2
  go_enter Try.func19, Try.ntmps19
  go_wp2_with fail
  refine H2.out.mono ?_
  rintro e w1 ⟨rfl, o1, h3⟩
  obtain ⟨c1, c2⟩ := box_cells o1
  have H3 := Lib.hid h3
  clear h3
  go_wp2_with fail
  refine H3.out.mono ?_
  rintro e w2 ⟨rfl, p2, o2⟩
  have P2 := Lib.hid p2
  clear p2 H2 H3
  go_wp2_with fail
  go_returns
  exact HF.out w1 w2 ((Only.of_none ((Only.refl (fun _ => False) w).alloc _)).trans o1) P2.out o2
set_option maxRecDepth 100000 in
theorem does_find (p n : Int) : Calls Try.prog 19 #[.pointer (some ⟨b, 0, none⟩), .pointer (some ⟨rb, 0, none⟩), .agg #[.int .i64 3, .int .i64 p, .int .i64 n]] w (DoesPost Z B0 b gu rb most sd sg w) := by
  have hP := h.keep ((Only.refl (fun _ => False) w).alloc (.cells #[.int .i64 3, .int .i64 p, .int .i64 n] 48))
  obtain ⟨x, h2⟩ := two_find hZ _ hP p
  have H2 := Lib.hid h2
  have HF := Lib.hid (fun w1 w2 => two_fin (Z := Z) (B0 := B0) (b := b) (gu := gu) (rb := rb) (most := most) (sd := sd) (sg := sg) (N := w.heap.size) (w1 := w1) (w2 := w2) w)
  clear h hZ hP h2
  go_enter Try.func19, Try.ntmps19
  go_wp2_with fail
  refine H2.out.mono ?_
  rintro e w1 ⟨rfl, o1, h3⟩
  obtain ⟨c1, c2⟩ := box_cells o1
  have H3 := Lib.hid h3
  clear h3
  go_wp2_with fail
  refine H3.out.mono ?_
  rintro e w2 ⟨rfl, p2, o2⟩
  have P2 := Lib.hid p2
  clear p2 H2 H3
  go_wp2_with fail
  go_returns
  exact HF.out w1 w2 ((Only.of_none ((Only.refl (fun _ => False) w).alloc _)).trans o1) P2.out o2
set_option maxRecDepth 100000 in
theorem does_at (p n : Int) : Calls Try.prog 19 #[.pointer (some ⟨b, 0, none⟩), .pointer (some ⟨rb, 0, none⟩), .agg #[.int .i64 4, .int .i64 p, .int .i64 n]] w (DoesPost Z B0 b gu rb most sd sg w) := by
  have hP := h.keep ((Only.refl (fun _ => False) w).alloc (.cells #[.int .i64 4, .int .i64 p, .int .i64 n] 48))
  obtain ⟨x, y, h2⟩ := two_at hZ _ hP n
  have H2 := Lib.hid h2
  have HF := Lib.hid (fun w1 w2 => two_fin (Z := Z) (B0 := B0) (b := b) (gu := gu) (rb := rb) (most := most) (sd := sd) (sg := sg) (N := w.heap.size) (w1 := w1) (w2 := w2) w)
  clear h hZ hP h2
  have ty : (y == y) = true := by simp
  go_enter Try.func19, Try.ntmps19
  go_wp2_with fail
  refine H2.out.mono ?_
  rintro e w1 ⟨rfl, o1, h3⟩
  obtain ⟨c1, c2⟩ := box_cells o1
  have H3 := Lib.hid h3
  clear h3
  go_wp2_with fail
  refine H3.out.mono ?_
  rintro e w2 ⟨rfl, p2, o2⟩
  have P2 := Lib.hid p2
  clear p2 H2 H3
  go_wp2_with fail
  go_returns
  exact HF.out w1 w2 ((Only.of_none ((Only.refl (fun _ => False) w).alloc _)).trans o1) P2.out o2
set_option maxRecDepth 100000 in
theorem does_better (p n : Int) : Calls Try.prog 19 #[.pointer (some ⟨b, 0, none⟩), .pointer (some ⟨rb, 0, none⟩), .agg #[.int .i64 5, .int .i64 p, .int .i64 n]] w (DoesPost Z B0 b gu rb most sd sg w) := by
  have hP := h.keep ((Only.refl (fun _ => False) w).alloc (.cells #[.int .i64 5, .int .i64 p, .int .i64 n] 48))
  obtain ⟨x, h2⟩ := two_better hZ _ hP p
  have H2 := Lib.hid h2
  have HF := Lib.hid (fun w1 w2 => two_fin (Z := Z) (B0 := B0) (b := b) (gu := gu) (rb := rb) (most := most) (sd := sd) (sg := sg) (N := w.heap.size) (w1 := w1) (w2 := w2) w)
  clear h hZ hP h2
  go_enter Try.func19, Try.ntmps19
  go_wp2_with fail
  refine H2.out.mono ?_
  rintro e w1 ⟨rfl, o1, h3⟩
  obtain ⟨c1, c2⟩ := box_cells o1
  have H3 := Lib.hid h3
  clear h3
  go_wp2_with fail
  refine H3.out.mono ?_
  rintro e w2 ⟨rfl, p2, o2⟩
  have P2 := Lib.hid p2
  clear p2 H2 H3
  go_wp2_with fail
  go_returns
  exact HF.out w1 w2 ((Only.of_none ((Only.refl (fun _ => False) w).alloc _)).trans o1) P2.out o2

set_option maxRecDepth 100000 in
theorem does_upto (p n : Int) : Calls Try.prog 19 #[.pointer (some ⟨b, 0, none⟩), .pointer (some ⟨rb, 0, none⟩), .agg #[.int .i64 6, .int .i64 p, .int .i64 n]] w (DoesPost Z B0 b gu rb most sd sg w) := by
  have _ := hZ
  have HF := Lib.hid (fun w2 => fin0 (w2 := w2) w h)
  obtain ⟨_, hv, hr, L, h1, h2, _, _, _⟩ := h.keep ((Only.refl (fun _ => False) w).alloc (.cells #[.int .i64 6, .int .i64 p, .int .i64 n] 48))
  have HU := Lib.hid (both_upto h1 h2 p)
  clear h h1 h2
  go_enter Try.func19, Try.ntmps19
  go_wp2_with fail
  refine HU.out.mono ?_
  intro e w1 hq
  obtain ⟨ua, un, uc, rfl, o1, hu⟩ := hq
  have HLU := fun W o => Lib.hid (hu W o)
  obtain ⟨c1, c2⟩ := box_cells (Z := fun _ => False) (o1.mono fun _ _ h => h.elim)
  clear hu
  go_wp2_with fail
  refine (HLU _ (by repeat' (first | (with_reducible exact Only.refl _ _) | (with_reducible assumption) | (refine Only.of_none ?_; with_reducible assumption) | (with_reducible refine Only.drewN ?_ _) | (with_reducible refine Only.drew ?_) | (with_reducible refine Only.alloc ?_ _) | (with_reducible refine Only.setCell ?_ ?_ _) | (with_reducible refine Only.then0 ?_ (by with_reducible assumption)) | (with_reducible refine Only.thenN ?_ (by with_reducible assumption) ?_) | (with_reducible refine Only.trans ?_ (by with_reducible assumption)) | (refine .inl ?_; first | rfl | (simp; done) | (simp [Ar.blk]; done)) | (refine .inr ?_; first | omega | (simp; done) | (simp; omega) | exact Only.size (by with_reducible assumption) | (refine Nat.le_trans (Only.size (by with_reducible assumption)) ?_; simp; done))))).out.mono ?_
  rintro e w2 ⟨rfl, o2⟩
  go_wp2_with fail
  go_returns
  exact HF.out _ (by repeat' (first | (with_reducible exact Only.refl _ _) | (with_reducible assumption) | (refine Only.of_none ?_; with_reducible assumption) | (with_reducible refine Only.drewN ?_ _) | (with_reducible refine Only.drew ?_) | (with_reducible refine Only.alloc ?_ _) | (with_reducible refine Only.setCell ?_ ?_ _) | (with_reducible refine Only.then0 ?_ (by with_reducible assumption)) | (with_reducible refine Only.thenN ?_ (by with_reducible assumption) ?_) | (with_reducible refine Only.trans ?_ (by with_reducible assumption)) | (refine .inl ?_; first | rfl | (simp; done) | (simp [Ar.blk]; done)) | (refine .inr ?_; first | omega | (simp; done) | (simp; omega) | exact Only.size (by with_reducible assumption) | (refine Nat.le_trans (Only.size (by with_reducible assumption)) ?_; simp; done))))

set_option maxRecDepth 100000 in
theorem does_else (kind p n : Int) (hk : kind < 1 ∨ 6 < kind) : Calls Try.prog 19 #[.pointer (some ⟨b, 0, none⟩), .pointer (some ⟨rb, 0, none⟩), .agg #[.int .i64 kind, .int .i64 p, .int .i64 n]] w (DoesPost Z B0 b gu rb most sd sg w) := by
  have _ := hZ
  have HF := Lib.hid (fun w2 => fin0 (w2 := w2) w h)
  have HL := Lib.hid (s_looks _ (h.keep ((Only.refl (fun _ => False) w).alloc (.cells #[.int .i64 kind, .int .i64 p, .int .i64 n] 48))))
  have t1 : (kind == 1) = false := by simp; omega
  have t2 : (kind == 2) = false := by simp; omega
  have t3 : (kind == 3) = false := by simp; omega
  have t4 : (kind == 4) = false := by simp; omega
  have t5 : (kind == 5) = false := by simp; omega
  have t6 : (kind == 6) = false := by simp; omega
  clear h hk
  go_enter Try.func19, Try.ntmps19
  go_wp2_with fail
  refine HL.out.mono ?_
  rintro e w1 ⟨rfl, o1⟩
  go_wp2_with fail
  go_returns
  exact HF.out _ (by repeat' (first | (with_reducible exact Only.refl _ _) | (with_reducible assumption) | (refine Only.of_none ?_; with_reducible assumption) | (with_reducible refine Only.drewN ?_ _) | (with_reducible refine Only.drew ?_) | (with_reducible refine Only.alloc ?_ _) | (with_reducible refine Only.setCell ?_ ?_ _) | (with_reducible refine Only.then0 ?_ (by with_reducible assumption)) | (with_reducible refine Only.thenN ?_ (by with_reducible assumption) ?_) | (with_reducible refine Only.trans ?_ (by with_reducible assumption)) | (refine .inl ?_; first | rfl | (simp; done) | (simp [Ar.blk]; done)) | (refine .inr ?_; first | omega | (simp; done) | (simp; omega) | exact Only.size (by with_reducible assumption) | (refine Nat.le_trans (Only.size (by with_reducible assumption)) ?_; simp; done))))

theorem s_does (kind p n : Int) : Calls Try.prog 19 #[.pointer (some ⟨b, 0, none⟩), .pointer (some ⟨rb, 0, none⟩), .agg #[.int .i64 kind, .int .i64 p, .int .i64 n]] w (DoesPost Z B0 b gu rb most sd sg w) := by
  by_cases hk : kind < 1 ∨ 6 < kind
  · exact does_else hZ w h kind p n hk
  · have hc : kind = 1 ∨ kind = 2 ∨ kind = 3 ∨ kind = 4 ∨ kind = 5 ∨ kind = 6 := by omega
    rcases hc with rfl | rfl | rfl | rfl | rfl | rfl
    · exact does_add hZ w h p n
    · exact does_drop hZ w h p n
    · exact does_find hZ w h p n
    · exact does_at hZ w h p n
    · exact does_better hZ w h p n
    · exact does_upto hZ w h p n
end

end Go.Proofs.Ytkglplngnjgnhaa
