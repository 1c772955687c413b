/- Slots: least, walked. Conditions: an arena as New lays it, with a free number. -/
import Derived.Test.YtkglplngnjgnhaaOrd2
namespace Go.Proofs.Ytkglplngnjgnhaa
set_option linter.unusedVariables false
set_option linter.unusedSimpArgs false
namespace Od
open Go.RowKit

set_option maxHeartbeats 4000000 in
set_option maxRecDepth 100000 in
theorem s_least (w : World) (b : Nat) (A : Ar) (h : ArAt w b A) (hn : 0 < A.nf) :
    Calls Try.prog 100 #[.pointer (some ⟨b, 0, none⟩)] w fun e w' => e = .returned (.int .i64 (A.fr 0)) ∧ ArAt w' b A.least ∧ Only (fun i => i = b ∨ i = A.gf) w w' := by
  have hs := h.small
  obtain ⟨e, he⟩ : ∃ e, A.nf = e + 1 := ⟨A.nf - 1, by omega⟩
  have hr1 : 0 < A.room := by omega
  have c2 := h.c2.cell
  have e2 := h.c2.free
  have hlt := h.c2.lt
  have hgf := h.gf_lt
  have f0 := (h.fc (i := 0) (by omega)).cell
  have p0 := (h.fc (i := 0) (by omega)).free
  have fe := (h.fc (i := e) (by omega)).cell
  rw [he] at c2
  have H1 := Lib.hid (fun W (hW : ArAt W b A) => (hW.setf (i := 0) (by omega) (A.fr e)).setn (n := e) (by simp only; omega))
  have hl : A.least = { A with nf := e, fr := siftDown (e + 1) (upd A.fr 0 (A.fr e)) 0 e } := by unfold Ar.least; rw [he]; rfl
  have HL := Lib.hid hl
  have HAr := Lib.hid h
  have he16 : e < 65536 := by omega
  have her : e < A.room := by omega
  have HE := Lib.hid he
  obtain ⟨F0, hF0⟩ : ∃ F, F = upd A.fr 0 (A.fr e) := ⟨_, rfl⟩
  rw [← hF0] at H1 HL
  clear h hl he hn hF0
  generalize hx0 : A.fr 0 = x0 at *
  generalize hxe : A.fr e = xe at *
  clear hx0 hxe
  simp only at H1
  go_enter Try.func100, Try.ntmps100
  go_wp2
  go_quiet (fail)
  go_wp2
  go_region
  go_wp2
  go_loopw [5, 6] (fun i u wr => ∃ (k : Nat) (f : Nat → Int), i = .int .i64 k ∧ k ≤ e ∧ siftDown (e + 1) f k e = siftDown (e + 1) F0 0 e ∧ ArAt wr b { A with nf := e, fr := f } ∧ Only (fun i => i = b ∨ i = A.gf) w wr)
    (fun i _ _ => e - (intOf i).toNat)
  case atStart => exact ⟨0, F0, rfl, by omega, rfl, H1.out _ (HAr.out.drewN _), by repeat' (first | (with_reducible exact Only.refl _ _) | (with_reducible assumption) | (refine Only.of_none ?_; with_reducible assumption) | (with_reducible refine Only.drewN ?_ _) | (with_reducible refine Only.drew ?_) | (with_reducible refine Only.alloc ?_ _) | (with_reducible refine Only.setCell ?_ ?_ _) | (with_reducible refine Only.then0 ?_ (by with_reducible assumption)) | (with_reducible refine Only.thenN ?_ (by with_reducible assumption) ?_) | (with_reducible refine Only.trans ?_ (by with_reducible assumption)) | (refine .inl ?_; first | rfl | (simp; done) | (simp [Ar.blk]; done)) | (refine .inr ?_; first | omega | (simp; done) | (simp; omega) | exact Only.size (by with_reducible assumption) | (refine Nat.le_trans (Only.size (by with_reducible assumption)) ?_; simp; done)))⟩
  case round =>
    obtain ⟨k, f, rfl, hk, hsift, hA, ho⟩ := hrel
    have c2r := hA.c2.cell
    have hbr := hA.c2.lt
    have hgr := hA.gf_lt
    clear c2 e2 f0 p0 fe H1 HAr
    simp only at c2r hgr
    have hw2 : IntKind.i64.wrap (2 * (k : Int) + 1 + 1) = 2 * (k : Int) + 2 := by rw [IntKind.wrap_i64]; omega
    by_cases c1 : 2 * k + 2 < e
    · have f1 := (hA.fc (i := 2 * k + 1) (by simp only; omega)).cell
      have f2 := (hA.fc (i := 2 * k + 2) (by simp only; omega)).cell
      have fk := (hA.fc (i := k) (by simp only; omega)).cell
      have p1 := (hA.fc (i := 2 * k + 1) (by simp only; omega)).free
      have p2 := (hA.fc (i := 2 * k + 2) (by simp only; omega)).free
      have pk := (hA.fc (i := k) (by simp only; omega)).free
      simp only at f1 f2 fk p1 p2 pk
      have i1 : (2 * (k : Int) + 2).toNat = 2 * k + 2 := by omega
      have i2 : (2 * (k : Int) + 1).toNat = 2 * k + 1 := by omega
      have i3 : 2 * (k : Int) + 2 < (e : Int) := by omega
      have i6 : (k : Int) < (e : Int) := by omega
      have i7 : decide ((e : Int) ≤ 2 * (k : Int) + 2) = false := by simp; omega
      have i8 : decide ((e : Int) ≤ 2 * (k : Int) + 1) = false := by simp; omega
      by_cases t1 : f (2 * k + 2) < f (2 * k + 1)
      · have hd : down f k e = 2 * k + 2 := by simp [down, c1, t1]
        by_cases t2 : f k < f (2 * k + 2)
        · have hstop : e ≤ 2 * k + 2 ∨ f k < f (2 * k + 2) := by first | exact .inr ‹_› | exact .inl (by omega)
          have HF := Lib.hid (show A.least = { A with nf := e, fr := f } by rw [HL.out, ← hsift]; simp only [siftDown, hd]; rw [if_pos hstop])
          have HAr := Lib.hid hA
          clear hsift hA HL hd hstop
          as_aux_lemma =>
            go_wp2
            go_quiet (fail)
            go_wp2
            go_quiet (fail)
            go_wp2
            go_returns
            exact ⟨rfl, by rw [HF.out]; (repeat (first | (with_reducible refine ArAt.drew ?_) | (with_reducible refine ArAt.drewN ?_ _) | (with_reducible refine ArAt.alloc ?_ _))); exact HAr.out, by repeat' (first | (with_reducible exact Only.refl _ _) | (with_reducible assumption) | (refine Only.of_none ?_; with_reducible assumption) | (with_reducible refine Only.drewN ?_ _) | (with_reducible refine Only.drew ?_) | (with_reducible refine Only.alloc ?_ _) | (with_reducible refine Only.setCell ?_ ?_ _) | (with_reducible refine Only.then0 ?_ (by with_reducible assumption)) | (with_reducible refine Only.thenN ?_ (by with_reducible assumption) ?_) | (with_reducible refine Only.trans ?_ (by with_reducible assumption)) | (refine .inl ?_; first | rfl | (simp; done) | (simp [Ar.blk]; done)) | (refine .inr ?_; first | omega | (simp; done) | (simp; omega) | exact Only.size (by with_reducible assumption) | (refine Nat.le_trans (Only.size (by with_reducible assumption)) ?_; simp; done)))⟩
        · have hgo : ¬ (e ≤ 2 * k + 2 ∨ f k < f (2 * k + 2)) := by omega
          have hnx : siftDown (e + 1) f k e = siftDown (e + 1) (swp f k (2 * k + 2)) (2 * k + 2) e := by
            rw [show siftDown (e + 1) f k e = siftDown e (swp f k (2 * k + 2)) (2 * k + 2) e by simp only [siftDown, hd]; rw [if_neg hgo]]
            exact siftDown_more _ _ _ _ _ (by omega) (by omega) (by omega) (by omega)
          have HSW := fun W (hW : ArAt W b { A with nf := e, fr := f }) => Lib.hid ((hW.setf (i := k) (by simp only; omega) (f (2 * k + 2))).setf (i := 2 * k + 2) (by simp only; omega) (f k))
          have HN := Lib.hid (hnx.symm.trans hsift)
          have HAr := Lib.hid hA
          clear hsift hnx hA HL hd hgo
          as_aux_lemma =>
            go_wp2
            go_quiet (fail)
            go_wp2
            go_quiet (fail)
            go_wp2
            go_region
            go_wp2
            go_roundw
            case rel =>
              refine ⟨2 * k + 2, swp f k (2 * k + 2), by go_num, by omega, HN.out, ?_, by repeat' (first | (with_reducible exact Only.refl _ _) | (with_reducible assumption) | (refine Only.of_none ?_; with_reducible assumption) | (with_reducible refine Only.drewN ?_ _) | (with_reducible refine Only.drew ?_) | (with_reducible refine Only.alloc ?_ _) | (with_reducible refine Only.setCell ?_ ?_ _) | (with_reducible refine Only.then0 ?_ (by with_reducible assumption)) | (with_reducible refine Only.thenN ?_ (by with_reducible assumption) ?_) | (with_reducible refine Only.trans ?_ (by with_reducible assumption)) | (refine .inl ?_; first | rfl | (simp; done) | (simp [Ar.blk]; done)) | (refine .inr ?_; first | omega | (simp; done) | (simp; omega) | exact Only.size (by with_reducible assumption) | (refine Nat.le_trans (Only.size (by with_reducible assumption)) ?_; simp; done)))⟩
              exact (HSW _ (by (repeat (first | (with_reducible refine ArAt.drew ?_) | (with_reducible refine ArAt.drewN ?_ _) | (with_reducible refine ArAt.alloc ?_ _))); exact HAr.out)).out
            case measure => simp [intOf]; omega
      · have hd : down f k e = 2 * k + 1 := by simp [down, t1]
        have t1' : f (2 * k + 1) ≤ f (2 * k + 2) := by omega
        by_cases t2 : f k < f (2 * k + 1)
        · have hstop : e ≤ 2 * k + 1 ∨ f k < f (2 * k + 1) := by first | exact .inr ‹_› | exact .inl (by omega)
          have HF := Lib.hid (show A.least = { A with nf := e, fr := f } by rw [HL.out, ← hsift]; simp only [siftDown, hd]; rw [if_pos hstop])
          have HAr := Lib.hid hA
          clear hsift hA HL hd hstop
          as_aux_lemma =>
            go_wp2
            go_quiet (fail)
            go_wp2
            go_quiet (fail)
            go_wp2
            go_returns
            exact ⟨rfl, by rw [HF.out]; (repeat (first | (with_reducible refine ArAt.drew ?_) | (with_reducible refine ArAt.drewN ?_ _) | (with_reducible refine ArAt.alloc ?_ _))); exact HAr.out, by repeat' (first | (with_reducible exact Only.refl _ _) | (with_reducible assumption) | (refine Only.of_none ?_; with_reducible assumption) | (with_reducible refine Only.drewN ?_ _) | (with_reducible refine Only.drew ?_) | (with_reducible refine Only.alloc ?_ _) | (with_reducible refine Only.setCell ?_ ?_ _) | (with_reducible refine Only.then0 ?_ (by with_reducible assumption)) | (with_reducible refine Only.thenN ?_ (by with_reducible assumption) ?_) | (with_reducible refine Only.trans ?_ (by with_reducible assumption)) | (refine .inl ?_; first | rfl | (simp; done) | (simp [Ar.blk]; done)) | (refine .inr ?_; first | omega | (simp; done) | (simp; omega) | exact Only.size (by with_reducible assumption) | (refine Nat.le_trans (Only.size (by with_reducible assumption)) ?_; simp; done)))⟩
        · have hgo : ¬ (e ≤ 2 * k + 1 ∨ f k < f (2 * k + 1)) := by omega
          have hnx : siftDown (e + 1) f k e = siftDown (e + 1) (swp f k (2 * k + 1)) (2 * k + 1) e := by
            rw [show siftDown (e + 1) f k e = siftDown e (swp f k (2 * k + 1)) (2 * k + 1) e by simp only [siftDown, hd]; rw [if_neg hgo]]
            exact siftDown_more _ _ _ _ _ (by omega) (by omega) (by omega) (by omega)
          have HSW := fun W (hW : ArAt W b { A with nf := e, fr := f }) => Lib.hid ((hW.setf (i := k) (by simp only; omega) (f (2 * k + 1))).setf (i := 2 * k + 1) (by simp only; omega) (f k))
          have HN := Lib.hid (hnx.symm.trans hsift)
          have HAr := Lib.hid hA
          clear hsift hnx hA HL hd hgo
          as_aux_lemma =>
            go_wp2
            go_quiet (fail)
            go_wp2
            go_quiet (fail)
            go_wp2
            go_region
            go_wp2
            go_roundw
            case rel =>
              refine ⟨2 * k + 1, swp f k (2 * k + 1), by go_num, by omega, HN.out, ?_, by repeat' (first | (with_reducible exact Only.refl _ _) | (with_reducible assumption) | (refine Only.of_none ?_; with_reducible assumption) | (with_reducible refine Only.drewN ?_ _) | (with_reducible refine Only.drew ?_) | (with_reducible refine Only.alloc ?_ _) | (with_reducible refine Only.setCell ?_ ?_ _) | (with_reducible refine Only.then0 ?_ (by with_reducible assumption)) | (with_reducible refine Only.thenN ?_ (by with_reducible assumption) ?_) | (with_reducible refine Only.trans ?_ (by with_reducible assumption)) | (refine .inl ?_; first | rfl | (simp; done) | (simp [Ar.blk]; done)) | (refine .inr ?_; first | omega | (simp; done) | (simp; omega) | exact Only.size (by with_reducible assumption) | (refine Nat.le_trans (Only.size (by with_reducible assumption)) ?_; simp; done)))⟩
              exact (HSW _ (by (repeat (first | (with_reducible refine ArAt.drew ?_) | (with_reducible refine ArAt.drewN ?_ _) | (with_reducible refine ArAt.alloc ?_ _))); exact HAr.out)).out
            case measure => simp [intOf]; omega
    · have hd : down f k e = 2 * k + 1 := by simp [down, c1]
      have i2 : (2 * (k : Int) + 1).toNat = 2 * k + 1 := by omega
      have i4 : decide (2 * (k : Int) + 2 < (e : Int)) = false := by simp; omega
      by_cases c2 : 2 * k + 1 < e
      · have f1 := (hA.fc (i := 2 * k + 1) (by simp only; omega)).cell
        have fk := (hA.fc (i := k) (by simp only; omega)).cell
        have p1 := (hA.fc (i := 2 * k + 1) (by simp only; omega)).free
        have pk := (hA.fc (i := k) (by simp only; omega)).free
        simp only at f1 fk p1 pk
        have i3 : 2 * (k : Int) + 1 < (e : Int) := by omega
        have i6 : (k : Int) < (e : Int) := by omega
        have i8 : decide ((e : Int) ≤ 2 * (k : Int) + 1) = false := by simp; omega
        by_cases t2 : f k < f (2 * k + 1)
        · have hstop : e ≤ 2 * k + 1 ∨ f k < f (2 * k + 1) := by first | exact .inr ‹_› | exact .inl (by omega)
          have HF := Lib.hid (show A.least = { A with nf := e, fr := f } by rw [HL.out, ← hsift]; simp only [siftDown, hd]; rw [if_pos hstop])
          have HAr := Lib.hid hA
          clear hsift hA HL hd hstop
          as_aux_lemma =>
            go_wp2
            go_quiet (fail)
            go_wp2
            go_quiet (fail)
            go_wp2
            go_returns
            exact ⟨rfl, by rw [HF.out]; (repeat (first | (with_reducible refine ArAt.drew ?_) | (with_reducible refine ArAt.drewN ?_ _) | (with_reducible refine ArAt.alloc ?_ _))); exact HAr.out, by repeat' (first | (with_reducible exact Only.refl _ _) | (with_reducible assumption) | (refine Only.of_none ?_; with_reducible assumption) | (with_reducible refine Only.drewN ?_ _) | (with_reducible refine Only.drew ?_) | (with_reducible refine Only.alloc ?_ _) | (with_reducible refine Only.setCell ?_ ?_ _) | (with_reducible refine Only.then0 ?_ (by with_reducible assumption)) | (with_reducible refine Only.thenN ?_ (by with_reducible assumption) ?_) | (with_reducible refine Only.trans ?_ (by with_reducible assumption)) | (refine .inl ?_; first | rfl | (simp; done) | (simp [Ar.blk]; done)) | (refine .inr ?_; first | omega | (simp; done) | (simp; omega) | exact Only.size (by with_reducible assumption) | (refine Nat.le_trans (Only.size (by with_reducible assumption)) ?_; simp; done)))⟩
        · have hgo : ¬ (e ≤ 2 * k + 1 ∨ f k < f (2 * k + 1)) := by omega
          have hnx : siftDown (e + 1) f k e = siftDown (e + 1) (swp f k (2 * k + 1)) (2 * k + 1) e := by
            rw [show siftDown (e + 1) f k e = siftDown e (swp f k (2 * k + 1)) (2 * k + 1) e by simp only [siftDown, hd]; rw [if_neg hgo]]
            exact siftDown_more _ _ _ _ _ (by omega) (by omega) (by omega) (by omega)
          have HSW := fun W (hW : ArAt W b { A with nf := e, fr := f }) => Lib.hid ((hW.setf (i := k) (by simp only; omega) (f (2 * k + 1))).setf (i := 2 * k + 1) (by simp only; omega) (f k))
          have HN := Lib.hid (hnx.symm.trans hsift)
          have HAr := Lib.hid hA
          clear hsift hnx hA HL hd hgo
          as_aux_lemma =>
            go_wp2
            go_quiet (fail)
            go_wp2
            go_quiet (fail)
            go_wp2
            go_region
            go_wp2
            go_roundw
            case rel =>
              refine ⟨2 * k + 1, swp f k (2 * k + 1), by go_num, by omega, HN.out, ?_, by repeat' (first | (with_reducible exact Only.refl _ _) | (with_reducible assumption) | (refine Only.of_none ?_; with_reducible assumption) | (with_reducible refine Only.drewN ?_ _) | (with_reducible refine Only.drew ?_) | (with_reducible refine Only.alloc ?_ _) | (with_reducible refine Only.setCell ?_ ?_ _) | (with_reducible refine Only.then0 ?_ (by with_reducible assumption)) | (with_reducible refine Only.thenN ?_ (by with_reducible assumption) ?_) | (with_reducible refine Only.trans ?_ (by with_reducible assumption)) | (refine .inl ?_; first | rfl | (simp; done) | (simp [Ar.blk]; done)) | (refine .inr ?_; first | omega | (simp; done) | (simp; omega) | exact Only.size (by with_reducible assumption) | (refine Nat.le_trans (Only.size (by with_reducible assumption)) ?_; simp; done)))⟩
              exact (HSW _ (by (repeat (first | (with_reducible refine ArAt.drew ?_) | (with_reducible refine ArAt.drewN ?_ _) | (with_reducible refine ArAt.alloc ?_ _))); exact HAr.out)).out
            case measure => simp [intOf]; omega
      · have i5 : decide ((e : Int) ≤ 2 * (k : Int) + 1) = true := by simp; omega
        have hstop : e ≤ 2 * k + 1 ∨ f k < f (2 * k + 1) := by first | exact .inr ‹_› | exact .inl (by omega)
        have HF := Lib.hid (show A.least = { A with nf := e, fr := f } by rw [HL.out, ← hsift]; simp only [siftDown, hd]; rw [if_pos hstop])
        have HAr := Lib.hid hA
        clear hsift hA HL hd hstop
        as_aux_lemma =>
          go_wp2
          go_quiet (fail)
          go_wp2
          go_quiet (fail)
          go_wp2
          go_returns
          exact ⟨rfl, by rw [HF.out]; (repeat (first | (with_reducible refine ArAt.drew ?_) | (with_reducible refine ArAt.drewN ?_ _) | (with_reducible refine ArAt.alloc ?_ _))); exact HAr.out, by repeat' (first | (with_reducible exact Only.refl _ _) | (with_reducible assumption) | (refine Only.of_none ?_; with_reducible assumption) | (with_reducible refine Only.drewN ?_ _) | (with_reducible refine Only.drew ?_) | (with_reducible refine Only.alloc ?_ _) | (with_reducible refine Only.setCell ?_ ?_ _) | (with_reducible refine Only.then0 ?_ (by with_reducible assumption)) | (with_reducible refine Only.thenN ?_ (by with_reducible assumption) ?_) | (with_reducible refine Only.trans ?_ (by with_reducible assumption)) | (refine .inl ?_; first | rfl | (simp; done) | (simp [Ar.blk]; done)) | (refine .inr ?_; first | omega | (simp; done) | (simp; omega) | exact Only.size (by with_reducible assumption) | (refine Nat.le_trans (Only.size (by with_reducible assumption)) ?_; simp; done)))⟩
end Od
end Go.Proofs.Ytkglplngnjgnhaa
