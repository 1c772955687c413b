/- The book: Get, Best, Prices, Fits. Conditions: a book as its New lays it. -/
import Derived.Test.YtkglplngnjgnhaaBk0
namespace Go.Proofs.Ytkglplngnjgnhaa
set_option linter.unusedVariables false
set_option linter.unusedSimpArgs false
open Go.RowKit
open Od (OrdR Lay FreeN Blk4)

/-- An order's box. -/
structure Five (w : World) (g : Nat) (a0 a1 a2 a3 a4 : Value) : Prop where
  c0 : Cell w g 0 a0
  c1 : Cell w g 1 a1
  c2 : Cell w g 2 a2
  c3 : Cell w g 3 a3
  c4 : Cell w g 4 a4
section
variable {w : World} {g : Nat} {a0 a1 a2 a3 a4 : Value}
theorem Five.new (w : World) (a0 a1 a2 a3 a4 : Value) (t : TypeId) : Five (w.alloc (.cells #[a0, a1, a2, a3, a4] t)) w.heap.size a0 a1 a2 a3 a4 := ⟨Cell.new rfl, Cell.new rfl, Cell.new rfl, Cell.new rfl, Cell.new rfl⟩
theorem Five.only (h : Five w g a0 a1 a2 a3 a4) {w' : World} {S : Nat → Prop} (o : Only S w w') (hS : ¬ S g) : Five w' g a0 a1 a2 a3 a4 := ⟨h.c0.only o hS, h.c1.only o hS, h.c2.only o hS, h.c3.only o hS, h.c4.only o hS⟩
theorem Five.put (h : Five w g a0 a1 a2 a3 a4) (u0 u1 u2 u3 u4 : Value) : Five (((((w.setCell ⟨g, 0, none⟩ u0).setCell ⟨g, 1, none⟩ u1).setCell ⟨g, 2, none⟩ u2).setCell ⟨g, 3, none⟩ u3).setCell ⟨g, 4, none⟩ u4) g u0 u1 u2 u3 u4 :=
  ⟨((((h.c0.set _).far (off_ne (by decide)) _).far (off_ne (by decide)) _).far (off_ne (by decide)) _).far (off_ne (by decide)) _,
   ((((h.c1.far (off_ne (by decide)) _).set _).far (off_ne (by decide)) _).far (off_ne (by decide)) _).far (off_ne (by decide)) _,
   ((((h.c2.far (off_ne (by decide)) _).far (off_ne (by decide)) _).set _).far (off_ne (by decide)) _).far (off_ne (by decide)) _,
   ((((h.c3.far (off_ne (by decide)) _).far (off_ne (by decide)) _).far (off_ne (by decide)) _).set _).far (off_ne (by decide)) _,
   ((((h.c4.far (off_ne (by decide)) _).far (off_ne (by decide)) _).far (off_ne (by decide)) _).far (off_ne (by decide)) _).set _⟩
theorem put5_only {S : Nat → Prop} {w0 : World} (o : Only S w0 w) (hg : S g ∨ w0.heap.size ≤ g) (u0 u1 u2 u3 u4 : Value) : Only S w0 (((((w.setCell ⟨g, 0, none⟩ u0).setCell ⟨g, 1, none⟩ u1).setCell ⟨g, 2, none⟩ u2).setCell ⟨g, 3, none⟩ u3).setCell ⟨g, 4, none⟩ u4) :=
  ((((o.setCell hg _).setCell hg _).setCell hg _).setCell hg _).setCell hg _
end
/-- An order as a value; none: noughts. -/
def ordV (o : OrdR) : Value := .agg #[.int .i64 o.i, .int .i64 o.c, .int .u8 o.s, .int .i64 o.p, .int .i64 o.q]
def zOrd : OrdR := ⟨0, 0, 0, 0, 0⟩

section
variable {w : World} {b : Nat} {bs gu : Bool → Nat} {hv : Bool → Value} {ba gl gr gf bm most room : Nat} {L : Bool → List (Int × Nat)} {R : Nat → List Nat} {V : Nat → OrdR} {F : Int → Option Int} {l : Bool → List OrdR}
theorem fst_row {most : Nat} {q : Bool} {r : Nat} (hr : r < most) : fst most q + r < 2 * most + 1 := by have := fst_le most q; omega

set_option maxHeartbeats 1000000 in
theorem k_get_no (h : BookM w b bs gu hv ba gl gr gf bm most room L R V F l) (k : Int) (hw : Wf k) (hf : F k = none) :
    Calls Try.prog 32 #[.pointer (some ⟨b, 0, none⟩), .int .i64 k] w fun e w' => e = .returned (.tuple #[ordV zOrd, .bool false]) ∧ Only (fun _ => False) w w' := by
  have o0 := (Only.refl (fun _ => False) w).alloc (.cells #[.int .i64 0, .int .i64 0, .int .u8 0, .int .i64 0, .int .i64 0] 54)
  have h0 := h.only o0 (fun _ _ => id)
  have c5 := h0.c5.cell
  have hl := h0.im.look hw
  rw [hf] at hl
  simp only [Option.getD_none, Option.isSome_none] at hl
  have h5 := Five.new w (.int .i64 0) (.int .i64 0) (.int .u8 0) (.int .i64 0) (.int .i64 0) 54
  have f0 := h5.c0.free; have f1 := h5.c1.free; have f2 := h5.c2.free; have f3 := h5.c3.free; have f4 := h5.c4.free
  have g0 := h5.c0.cell; have g1 := h5.c1.cell; have g2 := h5.c2.cell; have g3 := h5.c3.cell; have g4 := h5.c4.cell
  have P := h5.put (.int .i64 0) (.int .i64 0) (.int .u8 0) (.int .i64 0) (.int .i64 0)
  have p0 := P.c0.cell; have p1 := P.c1.cell; have p2 := P.c2.cell; have p3 := P.c3.cell; have p4 := P.c4.cell
  unfold ordV zOrd
  clear h h0 hf h5 P o0
  go_enter Try.func32, Try.ntmps32
  go_wp2_with fail
  refine bodyPost_ret (by simp [results, Try.results32, go_sem, p0, p1, p2, p3, p4]; try rfl) rfl ?_
  exact ⟨rfl, by repeat' (first | (with_reducible exact Only.refl _ _) | (with_reducible assumption) | (refine Only.of_none ?_; with_reducible assumption) | (with_reducible refine Only.drewN ?_ _) | (with_reducible refine Only.drew ?_) | (with_reducible refine Only.alloc ?_ _) | (with_reducible refine Only.setCell ?_ ?_ _) | (with_reducible refine Only.then0 ?_ (by with_reducible assumption)) | (with_reducible refine Only.thenN ?_ (by with_reducible assumption) ?_) | (with_reducible refine Only.trans ?_ (by with_reducible assumption)) | (refine .inl ?_; first | rfl | (simp; done) | (simp [Ar.blk]; done)) | (refine .inr ?_; first | omega | (simp; done) | (simp; omega) | exact Only.size (by with_reducible assumption) | (refine Nat.le_trans (Only.size (by with_reducible assumption)) ?_; simp; done)))⟩

set_option maxHeartbeats 1000000 in
theorem k_get (h : BookM w b bs gu hv ba gl gr gf bm most room L R V F l) (k : Int) (hw : Wf k) (n : Nat) (hf : F k = some (n : Int)) :
    Calls Try.prog 32 #[.pointer (some ⟨b, 0, none⟩), .int .i64 k] w fun e w' => e = .returned (.tuple #[ordV (V n), .bool true]) ∧ Only (fun _ => False) w w' := by
  have o0 := (Only.refl (fun _ => False) w).alloc (.cells #[.int .i64 0, .int .i64 0, .int .u8 0, .int .i64 0, .int .i64 0] 54)
  have h0 := h.only o0 (fun _ _ => id)
  have c5 := h0.c5.cell
  have c4 := h0.c4.cell
  have hl := h0.im.look hw
  rw [hf] at hl
  simp only [Option.getD_some, Option.isSome_some] at hl
  have h5 := Five.new w (.int .i64 0) (.int .i64 0) (.int .u8 0) (.int .i64 0) (.int .i64 0) 54
  obtain ⟨m, q, hm, hmem, hi, hmm⟩ := h.rep.found hw hf
  obtain rfl : n = m := by omega
  obtain ⟨x, hx, hr⟩ := mem_nums.1 hmem
  have hxr := h.rep.lt q x hx
  have HG := Lib.hid (Od.h_get _ ba gl gr gf (2 * most + 1) room R V h0.lay (fst most q + x.2) n (fst_row hxr) hr)
  have H5 := Lib.hid h5
  unfold ordV
  generalize V n = o at *
  obtain ⟨oi, oc, os, op, oq⟩ := o
  simp only at HG
  clear h h0 hf h5 hm hmem hx hr hxr hw hi hmm
  go_enter Try.func32, Try.ntmps32
  go_wp2_with fail
  refine HG.out.mono ?_
  rintro e w1 ⟨rfl, o1⟩
  have h6 := H5.out.only o1 id
  have f0 := h6.c0.free; have f1 := h6.c1.free; have f2 := h6.c2.free; have f3 := h6.c3.free; have f4 := h6.c4.free
  have g0 := h6.c0.cell; have g1 := h6.c1.cell; have g2 := h6.c2.cell; have g3 := h6.c3.cell; have g4 := h6.c4.cell
  have P := h6.put (.int .i64 oi) (.int .i64 oc) (.int .u8 os) (.int .i64 op) (.int .i64 oq)
  have p0 := P.c0.cell; have p1 := P.c1.cell; have p2 := P.c2.cell; have p3 := P.c3.cell; have p4 := P.c4.cell
  clear h6 P
  go_wp2_with fail
  refine bodyPost_ret (by simp [results, Try.results32, go_sem, p0, p1, p2, p3, p4]; try rfl) rfl ?_
  exact ⟨rfl, by repeat' (first | (with_reducible exact Only.refl _ _) | (with_reducible assumption) | (refine Only.of_none ?_; with_reducible assumption) | (with_reducible refine Only.drewN ?_ _) | (with_reducible refine Only.drew ?_) | (with_reducible refine Only.alloc ?_ _) | (with_reducible refine Only.setCell ?_ ?_ _) | (with_reducible refine Only.then0 ?_ (by with_reducible assumption)) | (with_reducible refine Only.thenN ?_ (by with_reducible assumption) ?_) | (with_reducible refine Only.trans ?_ (by with_reducible assumption)) | (refine .inl ?_; first | rfl | (simp; done) | (simp [Ar.blk]; done)) | (refine .inr ?_; first | omega | (simp; done) | (simp; omega) | exact Only.size (by with_reducible assumption) | (refine Nat.le_trans (Only.size (by with_reducible assumption)) ?_; simp; done)))⟩

theorem fieldHalf (v u : Value) (w : World) : (Instr.field 123 (.agg #[v, u]) 0).run Try.prog w = .ok v w := by kernel_rfl
/-- The best price; nought: none. -/
def bestP (L : List OrdR) : Int := match L with | [] => 0 | o :: _ => o.p
theorem BkRep.best (h : BkRep most room L R V F l) (q : Bool) : match L q with | [] => l q = [] | x :: _ => bestP (l q) = x.1 := by
  have e := h.e q
  cases hL : L q with
  | nil => rw [hL] at e; exact e
  | cons x t =>
    rw [hL, nums_cons] at e
    have h1 := (h.half q).ne x (by rw [hL]; simp)
    have h2 := (h.half q).pr x (by rw [hL]; simp)
    cases hR : R (fst most q + x.2) with
    | nil => exact absurd hR h1
    | cons n r =>
      rw [hR] at e
      show bestP (l q) = x.1
      rw [e]
      exact (h2 n (by rw [hR]; simp)).1
theorem sided_sdN (q : Bool) : sidedB (sdN q) = true := by cases q <;> rfl
theorem k_best_no (s : Int) (hs : sidedB s = false) : Calls Try.prog 36 #[.pointer (some ⟨b, 0, none⟩), .int .u8 s] w fun e w' => e = .returned (.int .i64 0) ∧ w = w' := by
  have H := Lib.hid (k_sided s w)
  rw [hs] at H
  clear hs
  go_enter Try.func36, Try.ntmps36
  go_wp2_with fail
  refine H.out.mono ?_
  rintro e w1 ⟨rfl, rfl⟩
  go_wp2_with fail
  go_returns
  exact ⟨rfl, rfl⟩
set_option maxRecDepth 100000 in
set_option maxHeartbeats 1000000 in
theorem k_best (h : BookM w b bs gu hv ba gl gr gf bm most room L R V F l) (q : Bool) : Calls Try.prog 36 #[.pointer (some ⟨b, 0, none⟩), .int .u8 (sdN q)] w fun e w' => e = .returned (.int .i64 (bestP (l q))) ∧ Only (fun _ => False) w w' := by
  have H := Lib.hid (k_sided (sdN q) w)
  rw [sided_sdN] at H
  have HH := Lib.hid (k_half h q)
  have HB := h.rep.best q
  have hsd := h.sd q
  have hfd := fieldHalf (.pointer (some ⟨bs q, 0, none⟩)) (.int .i64 (fst most q : Nat))
  cases hL : L q with
  | nil =>
    rw [hL] at HB hsd
    have HA := Lib.hid fun W (o : Only (fun _ => False) w W) => Go.Proofs.Ytkglplngnjgnhaa.s_best_no (SideU.only hsd o (fun _ _ => id))
    have HB1 : l q = [] := HB
    rw [HB1]
    generalize sdN q = s at *
    generalize bs q = b1 at *
    generalize fst most q = fs at *
    clear h hL HB HB1 hsd
    show Calls _ _ _ _ fun e w' => e = .returned (.int .i64 0) ∧ _
    go_enter Try.func36, Try.ntmps36
    go_wp2_with fail
    refine H.out.mono ?_
    rintro e w1 ⟨rfl, rfl⟩
    go_wp2_with fail
    refine HH.out.mono ?_
    rintro e w1 ⟨rfl, o1⟩
    go_wp2_with fail
    refine (HA.out _ o1).mono ?_
    rintro e w2 ⟨rfl, rfl⟩
    go_wp2_with fail
    go_returns
    exact ⟨rfl, o1⟩
  | cons x t =>
    rw [hL] at HB hsd
    have HA := Lib.hid fun W (o : Only (fun _ => False) w W) => Go.Proofs.Ytkglplngnjgnhaa.s_best x t (SideU.only hsd o (fun _ _ => id))
    have HB1 : bestP (l q) = x.1 := HB
    rw [HB1]
    generalize sdN q = s at *
    generalize bs q = b1 at *
    generalize fst most q = fs at *
    obtain ⟨p, hp⟩ : ∃ p, p = x.1 := ⟨_, rfl⟩
    rw [← hp] at HA ⊢
    clear h hL HB HB1 hsd hp
    go_enter Try.func36, Try.ntmps36
    go_wp2_with fail
    refine H.out.mono ?_
    rintro e w1 ⟨rfl, rfl⟩
    go_wp2_with fail
    refine HH.out.mono ?_
    rintro e w1 ⟨rfl, o1⟩
    go_wp2_with fail
    refine (HA.out _ o1).mono ?_
    rintro e w2 ⟨rfl, rfl⟩
    go_wp2_with fail
    go_returns
    exact ⟨rfl, o1⟩
end
end Go.Proofs.Ytkglplngnjgnhaa
