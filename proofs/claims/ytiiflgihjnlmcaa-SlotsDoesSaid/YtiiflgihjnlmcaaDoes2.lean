/- SlotsDoes: one call of both. Conditions: both arenas as their News lay them, and since called alike. -/
import Derived.Test.YtiiflgihjnlmcaaDoes1
namespace Go.Proofs.Ytiiflgihjnlmcaa
set_option linter.unusedVariables false
set_option linter.unusedSimpArgs false
open Go.RowKit

/-- Both answer alike, and hold the same. -/
def DoesPost (base ab gl gr gf rb rg ru nr room : Nat) (w : World) (e : Ending) (w' : World) : Prop := e = .returned (.bool true) ∧ Pair base ab gl gr gf rb rg ru nr room w' ∧ Only (BothB base ab gl gr gf rb rg ru) w w'

/-- What the first call leaves of the call's own box. -/
theorem box_cells {w w1 : World} {S : Nat → Prop} {k r n v : Int} (o : Only S (w.alloc (.cells #[.int .i64 k, .int .i64 r, .int .i64 n, .int .i64 v] 111)) w1) (hS : ¬ S w.heap.size) :
    w1.cell? ⟨w.heap.size, 1, none⟩ = some (.int .i64 r) ∧ w1.cell? ⟨w.heap.size, 2, none⟩ = some (.int .i64 n) ∧ w1.cell? ⟨w.heap.size, 3, none⟩ = some (.int .i64 v) :=
  ⟨o.cell (by simp) hS, o.cell (by simp) hS, o.cell (by simp) hS⟩

section
variable {base ab gl gr gf rb rg ru nr room : Nat}
theorem box_low (w : World) (h : Pair base ab gl gr gf rb rg ru nr room w) : ¬ Blk4 ab gl gr gf w.heap.size := fun hb => by
  obtain ⟨hv, R, V, h1, h2⟩ := h
  have := h1.blk _ hb
  omega
theorem two_fin (w : World) {w1 w2 : World} (o1 : Only (Blk4 ab gl gr gf) w w1) (hP : Pair base ab gl gr gf rb rg ru nr room w2) (o2 : Only (RaB base rb rg ru) w1 w2) : DoesPost base ab gl gr gf rb rg ru nr room w (.returned (.bool true)) w2 :=
  ⟨rfl, hP, (o1.mono fun _ _ h => .inl h).trans (o2.mono fun _ _ h => .inr h)⟩
variable (hs : Apart base ab gl gr gf rb rg ru) (w : World) (h : Pair base ab gl gr gf rb rg ru nr room w)
include hs h

set_option maxRecDepth 100000 in
theorem does_push (r n v : Int) : Calls Try.prog 73 #[.pointer (some ⟨ab, 0, none⟩), .pointer (some ⟨rb, 0, none⟩), .agg #[.int .i64 1, .int .i64 r, .int .i64 n, .int .i64 v]] w (DoesPost base ab gl gr gf rb rg ru nr room w) := by
  have hP := h.keep ((Only.refl (fun _ => False) w).alloc (.cells #[.int .i64 1, .int .i64 r, .int .i64 n, .int .i64 v] 111))
  obtain ⟨x, y, h2⟩ := two_push hs _ hP r v
  have H2 := Lib.hid h2
  have HB := Lib.hid (box_low w h)
  have HF := Lib.hid (fun w1 w2 => two_fin (base := base) (ab := ab) (gl := gl) (gr := gr) (gf := gf) (rb := rb) (rg := rg) (ru := ru) (nr := nr) (room := room) (w1 := w1) (w2 := w2) w)
  clear h hs hP h2
  go_enter Try.func73, Try.ntmps73
  go_wp2_with fail
  refine H2.out.mono ?_
  rintro e w1 ⟨rfl, o1, h3⟩
  obtain ⟨c1, c2, c3⟩ := box_cells o1 HB.out
  have H3 := Lib.hid h3
  clear h3
  go_wp2_with fail
  refine H3.out.mono ?_
  rintro e w2 ⟨rfl, p2, o2⟩
  have P2 := Lib.hid p2
  clear p2 H2 H3
  go_wp2_with fail
  go_returns
  exact HF.out w1 w2 ((Only.of_none ((Only.refl (fun _ => False) w).alloc _)).trans o1) P2.out o2
set_option maxRecDepth 100000 in
theorem does_get (r n v : Int) : Calls Try.prog 73 #[.pointer (some ⟨ab, 0, none⟩), .pointer (some ⟨rb, 0, none⟩), .agg #[.int .i64 2, .int .i64 r, .int .i64 n, .int .i64 v]] w (DoesPost base ab gl gr gf rb rg ru nr room w) := by
  have hP := h.keep ((Only.refl (fun _ => False) w).alloc (.cells #[.int .i64 2, .int .i64 r, .int .i64 n, .int .i64 v] 111))
  obtain ⟨x, y, h2⟩ := two_get hs _ hP n
  have H2 := Lib.hid h2
  have HB := Lib.hid (box_low w h)
  have HF := Lib.hid (fun w1 w2 => two_fin (base := base) (ab := ab) (gl := gl) (gr := gr) (gf := gf) (rb := rb) (rg := rg) (ru := ru) (nr := nr) (room := room) (w1 := w1) (w2 := w2) w)
  clear h hs hP h2
  go_enter Try.func73, Try.ntmps73
  go_wp2_with fail
  refine H2.out.mono ?_
  rintro e w1 ⟨rfl, o1, h3⟩
  obtain ⟨c1, c2, c3⟩ := box_cells o1 HB.out
  have H3 := Lib.hid h3
  clear h3
  have ty : (y == y) = true := by simp
  go_wp2_with fail
  refine H3.out.mono ?_
  rintro e w2 ⟨rfl, p2, o2⟩
  have P2 := Lib.hid p2
  clear p2 H2 H3
  go_wp2_with fail
  go_returns
  exact HF.out w1 w2 ((Only.of_none ((Only.refl (fun _ => False) w).alloc _)).trans o1) P2.out o2
set_option maxRecDepth 100000 in
theorem does_set (r n v : Int) : Calls Try.prog 73 #[.pointer (some ⟨ab, 0, none⟩), .pointer (some ⟨rb, 0, none⟩), .agg #[.int .i64 3, .int .i64 r, .int .i64 n, .int .i64 v]] w (DoesPost base ab gl gr gf rb rg ru nr room w) := by
  have hP := h.keep ((Only.refl (fun _ => False) w).alloc (.cells #[.int .i64 3, .int .i64 r, .int .i64 n, .int .i64 v] 111))
  obtain ⟨y, h2⟩ := two_set hs _ hP n v
  have H2 := Lib.hid h2
  have HB := Lib.hid (box_low w h)
  have HF := Lib.hid (fun w1 w2 => two_fin (base := base) (ab := ab) (gl := gl) (gr := gr) (gf := gf) (rb := rb) (rg := rg) (ru := ru) (nr := nr) (room := room) (w1 := w1) (w2 := w2) w)
  clear h hs hP h2
  go_enter Try.func73, Try.ntmps73
  go_wp2_with fail
  refine H2.out.mono ?_
  rintro e w1 ⟨rfl, o1, h3⟩
  obtain ⟨c1, c2, c3⟩ := box_cells o1 HB.out
  have H3 := Lib.hid h3
  clear h3
  have ty : (y == y) = true := by simp
  go_wp2_with fail
  refine H3.out.mono ?_
  rintro e w2 ⟨rfl, p2, o2⟩
  have P2 := Lib.hid p2
  clear p2 H2 H3
  go_wp2_with fail
  go_returns
  exact HF.out w1 w2 ((Only.of_none ((Only.refl (fun _ => False) w).alloc _)).trans o1) P2.out o2
set_option maxRecDepth 100000 in
theorem does_take (r n v : Int) : Calls Try.prog 73 #[.pointer (some ⟨ab, 0, none⟩), .pointer (some ⟨rb, 0, none⟩), .agg #[.int .i64 4, .int .i64 r, .int .i64 n, .int .i64 v]] w (DoesPost base ab gl gr gf rb rg ru nr room w) := by
  have hP := h.keep ((Only.refl (fun _ => False) w).alloc (.cells #[.int .i64 4, .int .i64 r, .int .i64 n, .int .i64 v] 111))
  obtain ⟨x, y, h2⟩ := two_take hs _ hP n
  have H2 := Lib.hid h2
  have HB := Lib.hid (box_low w h)
  have HF := Lib.hid (fun w1 w2 => two_fin (base := base) (ab := ab) (gl := gl) (gr := gr) (gf := gf) (rb := rb) (rg := rg) (ru := ru) (nr := nr) (room := room) (w1 := w1) (w2 := w2) w)
  clear h hs hP h2
  go_enter Try.func73, Try.ntmps73
  go_wp2_with fail
  refine H2.out.mono ?_
  rintro e w1 ⟨rfl, o1, h3⟩
  obtain ⟨c1, c2, c3⟩ := box_cells o1 HB.out
  have H3 := Lib.hid h3
  clear h3
  have ty : (y == y) = true := by simp
  go_wp2_with fail
  refine H3.out.mono ?_
  rintro e w2 ⟨rfl, p2, o2⟩
  have P2 := Lib.hid p2
  clear p2 H2 H3
  go_wp2_with fail
  go_returns
  exact HF.out w1 w2 ((Only.of_none ((Only.refl (fun _ => False) w).alloc _)).trans o1) P2.out o2
set_option maxRecDepth 100000 in
theorem does_row (r n v : Int) : Calls Try.prog 73 #[.pointer (some ⟨ab, 0, none⟩), .pointer (some ⟨rb, 0, none⟩), .agg #[.int .i64 5, .int .i64 r, .int .i64 n, .int .i64 v]] w (DoesPost base ab gl gr gf rb rg ru nr room w) := by
  have hP := h.keep ((Only.refl (fun _ => False) w).alloc (.cells #[.int .i64 5, .int .i64 r, .int .i64 n, .int .i64 v] 111))
  obtain ⟨x, h2⟩ := two_row hs _ hP n
  have H2 := Lib.hid h2
  have HB := Lib.hid (box_low w h)
  have HF := Lib.hid (fun w1 w2 => two_fin (base := base) (ab := ab) (gl := gl) (gr := gr) (gf := gf) (rb := rb) (rg := rg) (ru := ru) (nr := nr) (room := room) (w1 := w1) (w2 := w2) w)
  clear h hs hP h2
  go_enter Try.func73, Try.ntmps73
  go_wp2_with fail
  refine H2.out.mono ?_
  rintro e w1 ⟨rfl, o1, h3⟩
  obtain ⟨c1, c2, c3⟩ := box_cells o1 HB.out
  have H3 := Lib.hid h3
  clear h3
  go_wp2_with fail
  refine H3.out.mono ?_
  rintro e w2 ⟨rfl, p2, o2⟩
  have P2 := Lib.hid p2
  clear p2 H2 H3
  go_wp2_with fail
  go_returns
  exact HF.out w1 w2 ((Only.of_none ((Only.refl (fun _ => False) w).alloc _)).trans o1) P2.out o2
set_option maxRecDepth 100000 in
theorem does_first (r n v : Int) : Calls Try.prog 73 #[.pointer (some ⟨ab, 0, none⟩), .pointer (some ⟨rb, 0, none⟩), .agg #[.int .i64 6, .int .i64 r, .int .i64 n, .int .i64 v]] w (DoesPost base ab gl gr gf rb rg ru nr room w) := by
  have hP := h.keep ((Only.refl (fun _ => False) w).alloc (.cells #[.int .i64 6, .int .i64 r, .int .i64 n, .int .i64 v] 111))
  obtain ⟨x, h2⟩ := two_first hs _ hP r
  have H2 := Lib.hid h2
  have HB := Lib.hid (box_low w h)
  have HF := Lib.hid (fun w1 w2 => two_fin (base := base) (ab := ab) (gl := gl) (gr := gr) (gf := gf) (rb := rb) (rg := rg) (ru := ru) (nr := nr) (room := room) (w1 := w1) (w2 := w2) w)
  clear h hs hP h2
  go_enter Try.func73, Try.ntmps73
  go_wp2_with fail
  refine H2.out.mono ?_
  rintro e w1 ⟨rfl, o1, h3⟩
  obtain ⟨c1, c2, c3⟩ := box_cells o1 HB.out
  have H3 := Lib.hid h3
  clear h3
  go_wp2_with fail
  refine H3.out.mono ?_
  rintro e w2 ⟨rfl, p2, o2⟩
  have P2 := Lib.hid p2
  clear p2 H2 H3
  go_wp2_with fail
  go_returns
  exact HF.out w1 w2 ((Only.of_none ((Only.refl (fun _ => False) w).alloc _)).trans o1) P2.out o2
set_option maxRecDepth 100000 in
theorem does_next (r n v : Int) : Calls Try.prog 73 #[.pointer (some ⟨ab, 0, none⟩), .pointer (some ⟨rb, 0, none⟩), .agg #[.int .i64 7, .int .i64 r, .int .i64 n, .int .i64 v]] w (DoesPost base ab gl gr gf rb rg ru nr room w) := by
  have hP := h.keep ((Only.refl (fun _ => False) w).alloc (.cells #[.int .i64 7, .int .i64 r, .int .i64 n, .int .i64 v] 111))
  obtain ⟨x, h2⟩ := two_next hs _ hP n
  have H2 := Lib.hid h2
  have HB := Lib.hid (box_low w h)
  have HF := Lib.hid (fun w1 w2 => two_fin (base := base) (ab := ab) (gl := gl) (gr := gr) (gf := gf) (rb := rb) (rg := rg) (ru := ru) (nr := nr) (room := room) (w1 := w1) (w2 := w2) w)
  clear h hs hP h2
  go_enter Try.func73, Try.ntmps73
  go_wp2_with fail
  refine H2.out.mono ?_
  rintro e w1 ⟨rfl, o1, h3⟩
  obtain ⟨c1, c2, c3⟩ := box_cells o1 HB.out
  have H3 := Lib.hid h3
  clear h3
  go_wp2_with fail
  refine H3.out.mono ?_
  rintro e w2 ⟨rfl, p2, o2⟩
  have P2 := Lib.hid p2
  clear p2 H2 H3
  go_wp2_with fail
  go_returns
  exact HF.out w1 w2 ((Only.of_none ((Only.refl (fun _ => False) w).alloc _)).trans o1) P2.out o2
set_option maxRecDepth 100000 in
theorem does_len (r n v : Int) : Calls Try.prog 73 #[.pointer (some ⟨ab, 0, none⟩), .pointer (some ⟨rb, 0, none⟩), .agg #[.int .i64 8, .int .i64 r, .int .i64 n, .int .i64 v]] w (DoesPost base ab gl gr gf rb rg ru nr room w) := by
  have hP := h.keep ((Only.refl (fun _ => False) w).alloc (.cells #[.int .i64 8, .int .i64 r, .int .i64 n, .int .i64 v] 111))
  obtain ⟨x, h2⟩ := two_len hs _ hP r
  have H2 := Lib.hid h2
  have HB := Lib.hid (box_low w h)
  have HF := Lib.hid (fun w1 w2 => two_fin (base := base) (ab := ab) (gl := gl) (gr := gr) (gf := gf) (rb := rb) (rg := rg) (ru := ru) (nr := nr) (room := room) (w1 := w1) (w2 := w2) w)
  clear h hs hP h2
  go_enter Try.func73, Try.ntmps73
  go_wp2_with fail
  refine H2.out.mono ?_
  rintro e w1 ⟨rfl, o1, h3⟩
  obtain ⟨c1, c2, c3⟩ := box_cells o1 HB.out
  have H3 := Lib.hid h3
  clear h3
  go_wp2_with fail
  refine H3.out.mono ?_
  rintro e w2 ⟨rfl, p2, o2⟩
  have P2 := Lib.hid p2
  clear p2 H2 H3
  go_wp2_with fail
  go_returns
  exact HF.out w1 w2 ((Only.of_none ((Only.refl (fun _ => False) w).alloc _)).trans o1) P2.out o2
set_option maxRecDepth 100000 in
theorem does_free (r n v : Int) : Calls Try.prog 73 #[.pointer (some ⟨ab, 0, none⟩), .pointer (some ⟨rb, 0, none⟩), .agg #[.int .i64 9, .int .i64 r, .int .i64 n, .int .i64 v]] w (DoesPost base ab gl gr gf rb rg ru nr room w) := by
  have hP := h.keep ((Only.refl (fun _ => False) w).alloc (.cells #[.int .i64 9, .int .i64 r, .int .i64 n, .int .i64 v] 111))
  obtain ⟨x, h2⟩ := two_free hs _ hP 
  have H2 := Lib.hid h2
  have HB := Lib.hid (box_low w h)
  have HF := Lib.hid (fun w1 w2 => two_fin (base := base) (ab := ab) (gl := gl) (gr := gr) (gf := gf) (rb := rb) (rg := rg) (ru := ru) (nr := nr) (room := room) (w1 := w1) (w2 := w2) w)
  clear h hs hP h2
  go_enter Try.func73, Try.ntmps73
  go_wp2_with fail
  refine H2.out.mono ?_
  rintro e w1 ⟨rfl, o1, h3⟩
  obtain ⟨c1, c2, c3⟩ := box_cells o1 HB.out
  have H3 := Lib.hid h3
  clear h3
  go_wp2_with fail
  refine H3.out.mono ?_
  rintro e w2 ⟨rfl, p2, o2⟩
  have P2 := Lib.hid p2
  clear p2 H2 H3
  go_wp2_with fail
  go_returns
  exact HF.out w1 w2 ((Only.of_none ((Only.refl (fun _ => False) w).alloc _)).trans o1) P2.out o2
set_option maxRecDepth 100000 in
theorem does_clear (r n v : Int) : Calls Try.prog 73 #[.pointer (some ⟨ab, 0, none⟩), .pointer (some ⟨rb, 0, none⟩), .agg #[.int .i64 11, .int .i64 r, .int .i64 n, .int .i64 v]] w (DoesPost base ab gl gr gf rb rg ru nr room w) := by
  have hP := h.keep ((Only.refl (fun _ => False) w).alloc (.cells #[.int .i64 11, .int .i64 r, .int .i64 n, .int .i64 v] 111))
  obtain ⟨x, h2⟩ := two_clear hs _ hP r
  have H2 := Lib.hid h2
  have HB := Lib.hid (box_low w h)
  have HF := Lib.hid (fun w1 w2 => two_fin (base := base) (ab := ab) (gl := gl) (gr := gr) (gf := gf) (rb := rb) (rg := rg) (ru := ru) (nr := nr) (room := room) (w1 := w1) (w2 := w2) w)
  clear h hs hP h2
  go_enter Try.func73, Try.ntmps73
  go_wp2_with fail
  refine H2.out.mono ?_
  rintro e w1 ⟨rfl, o1, h3⟩
  obtain ⟨c1, c2, c3⟩ := box_cells o1 HB.out
  have H3 := Lib.hid h3
  clear h3
  go_wp2_with fail
  refine H3.out.mono ?_
  rintro e w2 ⟨rfl, p2, o2⟩
  have P2 := Lib.hid p2
  clear p2 H2 H3
  go_wp2_with fail
  go_returns
  exact HF.out w1 w2 ((Only.of_none ((Only.refl (fun _ => False) w).alloc _)).trans o1) P2.out o2
end

section
variable {base ab gl gr gf rb rg ru nr room : Nat} (w : World) (h : Pair base ab gl gr gf rb rg ru nr room w)
include h
theorem fin0 {w2 : World} (o : Only (fun _ => False) w w2) : DoesPost base ab gl gr gf rb rg ru nr room w (.returned (.bool true)) w2 := ⟨rfl, h.keep o, Only.of_none o⟩

set_option maxHeartbeats 1000000 in
set_option maxRecDepth 100000 in
theorem does_all (r n v : Int) : Calls Try.prog 73 #[.pointer (some ⟨ab, 0, none⟩), .pointer (some ⟨rb, 0, none⟩), .agg #[.int .i64 10, .int .i64 r, .int .i64 n, .int .i64 v]] w (DoesPost base ab gl gr gf rb rg ru nr room w) := by
  have HF := Lib.hid (fun w2 => fin0 (w2 := w2) w h)
  obtain ⟨hv, R, V, h1, h2⟩ := h
  have c0 := h2.c0.cell
  have z0 := cell_lt c0
  have hsm := h2.small
  have H1 := Lib.hid h1
  by_cases hr0 : 0 ≤ r
  · have t0 : decide (0 ≤ r) = true := by simpa using hr0
    obtain ⟨k, rfl⟩ : ∃ k : Nat, r = k := ⟨r.toNat, by omega⟩
    by_cases hr : k < nr
    · have t1 : decide (k < nr) = true := by simpa using hr
      have i1 : (0 : Int) ≤ (k : Int) ∧ (k : Int) < (nr : Int) := by omega
      obtain ⟨a, cap, hd, hc, hw⟩ := RaAt.want h2 hr
      have z1 := cell_lt hd
      have HG := fun W (o : Only (fun _ => False) w W) => Lib.hid (s_goes W ab gl gr gf nr room R V (H1.out.keep o (fun _ _ => id)) k (R k) (.inl ⟨k, hr, rfl, rfl⟩) a (R k).length cap rfl hc (hw.only o (fun _ _ => id)))
      generalize (R k).length = len at *
      clear h1 h2 hc hw
      go_enter Try.func73, Try.ntmps73
      go_wp2_with fail
      go_quiet (fail)
      go_wp2_with fail
      go_quiet (fail)
      go_wp2_with fail
      refine (HG _ (by repeat' (first | (with_reducible exact Only.refl _ _) | (with_reducible assumption) | (refine Only.of_none ?_; with_reducible assumption) | (with_reducible refine Only.drewN ?_ _) | (with_reducible refine Only.drew ?_) | (with_reducible refine Only.alloc ?_ _) | (with_reducible refine Only.setCell ?_ ?_ _) | (with_reducible refine Only.then0 ?_ (by with_reducible assumption)) | (with_reducible refine Only.thenN ?_ (by with_reducible assumption) ?_) | (with_reducible refine Only.trans ?_ (by with_reducible assumption)) | (refine .inl ?_; first | rfl | (simp; done) | (simp [Ar.blk]; done)) | (refine .inr ?_; first | omega | (simp; done) | (simp; omega) | exact Only.size (by with_reducible assumption) | (refine Nat.le_trans (Only.size (by with_reducible assumption)) ?_; simp; done))))).out.mono ?_
      rintro e w1 ⟨rfl, o1⟩
      go_wp2_with fail
      go_returns
      exact HF.out _ (by repeat' (first | (with_reducible exact Only.refl _ _) | (with_reducible assumption) | (refine Only.of_none ?_; with_reducible assumption) | (with_reducible refine Only.drewN ?_ _) | (with_reducible refine Only.drew ?_) | (with_reducible refine Only.alloc ?_ _) | (with_reducible refine Only.setCell ?_ ?_ _) | (with_reducible refine Only.then0 ?_ (by with_reducible assumption)) | (with_reducible refine Only.thenN ?_ (by with_reducible assumption) ?_) | (with_reducible refine Only.trans ?_ (by with_reducible assumption)) | (refine .inl ?_; first | rfl | (simp; done) | (simp [Ar.blk]; done)) | (refine .inr ?_; first | omega | (simp; done) | (simp; omega) | exact Only.size (by with_reducible assumption) | (refine Nat.le_trans (Only.size (by with_reducible assumption)) ?_; simp; done))))
    · have t1 : decide (k < nr) = false := by simpa using hr
      have HG := fun W (o : Only (fun _ => False) w W) => Lib.hid (s_goes W ab gl gr gf nr room R V (H1.out.keep o (fun _ _ => id)) k [] (.inr ⟨by omega, rfl⟩) none 0 0 rfl (Nat.le_refl _) (fun j x hx => by simp at hx))
      clear h1 h2
      go_enter Try.func73, Try.ntmps73
      go_wp2_with fail
      go_quiet (fail)
      go_wp2_with fail
      refine (HG _ (by repeat' (first | (with_reducible exact Only.refl _ _) | (with_reducible assumption) | (refine Only.of_none ?_; with_reducible assumption) | (with_reducible refine Only.drewN ?_ _) | (with_reducible refine Only.drew ?_) | (with_reducible refine Only.alloc ?_ _) | (with_reducible refine Only.setCell ?_ ?_ _) | (with_reducible refine Only.then0 ?_ (by with_reducible assumption)) | (with_reducible refine Only.thenN ?_ (by with_reducible assumption) ?_) | (with_reducible refine Only.trans ?_ (by with_reducible assumption)) | (refine .inl ?_; first | rfl | (simp; done) | (simp [Ar.blk]; done)) | (refine .inr ?_; first | omega | (simp; done) | (simp; omega) | exact Only.size (by with_reducible assumption) | (refine Nat.le_trans (Only.size (by with_reducible assumption)) ?_; simp; done))))).out.mono ?_
      rintro e w1 ⟨rfl, o1⟩
      go_wp2_with fail
      go_returns
      exact HF.out _ (by repeat' (first | (with_reducible exact Only.refl _ _) | (with_reducible assumption) | (refine Only.of_none ?_; with_reducible assumption) | (with_reducible refine Only.drewN ?_ _) | (with_reducible refine Only.drew ?_) | (with_reducible refine Only.alloc ?_ _) | (with_reducible refine Only.setCell ?_ ?_ _) | (with_reducible refine Only.then0 ?_ (by with_reducible assumption)) | (with_reducible refine Only.thenN ?_ (by with_reducible assumption) ?_) | (with_reducible refine Only.trans ?_ (by with_reducible assumption)) | (refine .inl ?_; first | rfl | (simp; done) | (simp [Ar.blk]; done)) | (refine .inr ?_; first | omega | (simp; done) | (simp; omega) | exact Only.size (by with_reducible assumption) | (refine Nat.le_trans (Only.size (by with_reducible assumption)) ?_; simp; done))))
  · have t0 : decide (0 ≤ r) = false := by simpa using hr0
    have HG := fun W (o : Only (fun _ => False) w W) => Lib.hid (s_goes W ab gl gr gf nr room R V (H1.out.keep o (fun _ _ => id)) r [] (.inr ⟨by omega, rfl⟩) none 0 0 rfl (Nat.le_refl _) (fun j x hx => by simp at hx))
    clear h1 h2
    go_enter Try.func73, Try.ntmps73
    go_wp2_with fail
    go_quiet (fail)
    go_wp2_with fail
    refine (HG _ (by repeat' (first | (with_reducible exact Only.refl _ _) | (with_reducible assumption) | (refine Only.of_none ?_; with_reducible assumption) | (with_reducible refine Only.drewN ?_ _) | (with_reducible refine Only.drew ?_) | (with_reducible refine Only.alloc ?_ _) | (with_reducible refine Only.setCell ?_ ?_ _) | (with_reducible refine Only.then0 ?_ (by with_reducible assumption)) | (with_reducible refine Only.thenN ?_ (by with_reducible assumption) ?_) | (with_reducible refine Only.trans ?_ (by with_reducible assumption)) | (refine .inl ?_; first | rfl | (simp; done) | (simp [Ar.blk]; done)) | (refine .inr ?_; first | omega | (simp; done) | (simp; omega) | exact Only.size (by with_reducible assumption) | (refine Nat.le_trans (Only.size (by with_reducible assumption)) ?_; simp; done))))).out.mono ?_
    rintro e w1 ⟨rfl, o1⟩
    go_wp2_with fail
    go_returns
    exact HF.out _ (by repeat' (first | (with_reducible exact Only.refl _ _) | (with_reducible assumption) | (refine Only.of_none ?_; with_reducible assumption) | (with_reducible refine Only.drewN ?_ _) | (with_reducible refine Only.drew ?_) | (with_reducible refine Only.alloc ?_ _) | (with_reducible refine Only.setCell ?_ ?_ _) | (with_reducible refine Only.then0 ?_ (by with_reducible assumption)) | (with_reducible refine Only.thenN ?_ (by with_reducible assumption) ?_) | (with_reducible refine Only.trans ?_ (by with_reducible assumption)) | (refine .inl ?_; first | rfl | (simp; done) | (simp [Ar.blk]; done)) | (refine .inr ?_; first | omega | (simp; done) | (simp; omega) | exact Only.size (by with_reducible assumption) | (refine Nat.le_trans (Only.size (by with_reducible assumption)) ?_; simp; done))))

set_option maxRecDepth 100000 in
theorem does_else (kind r n v : Int) (hk : kind < 1 ∨ 11 < kind) : Calls Try.prog 73 #[.pointer (some ⟨ab, 0, none⟩), .pointer (some ⟨rb, 0, none⟩), .agg #[.int .i64 kind, .int .i64 r, .int .i64 n, .int .i64 v]] w (DoesPost base ab gl gr gf rb rg ru nr room w) := by
  have HF := Lib.hid (fun w2 => fin0 (w2 := w2) w h)
  have HL := Lib.hid (s_looks _ (h.keep ((Only.refl (fun _ => False) w).alloc (.cells #[.int .i64 kind, .int .i64 r, .int .i64 n, .int .i64 v] 111))))
  have t1 : (kind == 1) = false := by simp; omega
  have t2 : (kind == 2) = false := by simp; omega
  have t3 : (kind == 3) = false := by simp; omega
  have t4 : (kind == 4) = false := by simp; omega
  have t5 : (kind == 5) = false := by simp; omega
  have t6 : (kind == 6) = false := by simp; omega
  have t7 : (kind == 7) = false := by simp; omega
  have t8 : (kind == 8) = false := by simp; omega
  have t9 : (kind == 9) = false := by simp; omega
  have t10 : (kind == 10) = false := by simp; omega
  have t11 : (kind == 11) = false := by simp; omega
  clear h hk
  go_enter Try.func73, Try.ntmps73
  go_wp2_with fail
  refine HL.out.mono ?_
  rintro e w1 ⟨rfl, o1⟩
  go_wp2_with fail
  go_returns
  exact HF.out _ (by repeat' (first | (with_reducible exact Only.refl _ _) | (with_reducible assumption) | (refine Only.of_none ?_; with_reducible assumption) | (with_reducible refine Only.drewN ?_ _) | (with_reducible refine Only.drew ?_) | (with_reducible refine Only.alloc ?_ _) | (with_reducible refine Only.setCell ?_ ?_ _) | (with_reducible refine Only.then0 ?_ (by with_reducible assumption)) | (with_reducible refine Only.thenN ?_ (by with_reducible assumption) ?_) | (with_reducible refine Only.trans ?_ (by with_reducible assumption)) | (refine .inl ?_; first | rfl | (simp; done) | (simp [Ar.blk]; done)) | (refine .inr ?_; first | omega | (simp; done) | (simp; omega) | exact Only.size (by with_reducible assumption) | (refine Nat.le_trans (Only.size (by with_reducible assumption)) ?_; simp; done))))
end

theorem s_does {base ab gl gr gf rb rg ru nr room : Nat} (hs : Apart base ab gl gr gf rb rg ru) (w : World) (h : Pair base ab gl gr gf rb rg ru nr room w) (kind r n v : Int) :
    Calls Try.prog 73 #[.pointer (some ⟨ab, 0, none⟩), .pointer (some ⟨rb, 0, none⟩), .agg #[.int .i64 kind, .int .i64 r, .int .i64 n, .int .i64 v]] w (DoesPost base ab gl gr gf rb rg ru nr room w) := by
  by_cases hk : kind < 1 ∨ 11 < kind
  · exact does_else w h kind r n v hk
  · have hc : kind = 1 ∨ kind = 2 ∨ kind = 3 ∨ kind = 4 ∨ kind = 5 ∨ kind = 6 ∨ kind = 7 ∨ kind = 8 ∨ kind = 9 ∨ kind = 10 ∨ kind = 11 := by omega
    rcases hc with rfl | rfl | rfl | rfl | rfl | rfl | rfl | rfl | rfl | rfl | rfl
    · exact does_push hs w h r n v
    · exact does_get hs w h r n v
    · exact does_set hs w h r n v
    · exact does_take hs w h r n v
    · exact does_row hs w h r n v
    · exact does_first hs w h r n v
    · exact does_next hs w h r n v
    · exact does_len hs w h r n v
    · exact does_free hs w h r n v
    · exact does_all w h r n v
    · exact does_clear hs w h r n v

end Go.Proofs.Ytiiflgihjnlmcaa
