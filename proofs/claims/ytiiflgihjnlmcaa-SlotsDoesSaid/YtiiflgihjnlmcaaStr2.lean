/- Slots: give, walked. Conditions: an arena as New lays it, with a place for the number. -/
import Derived.Test.YtiiflgihjnlmcaaSlots8
namespace Go.Proofs.Ytiiflgihjnlmcaa
set_option linter.unusedVariables false
set_option linter.unusedSimpArgs false
namespace Str
open Go.RowKit

set_option maxHeartbeats 1000000 in
set_option maxRecDepth 100000 in
theorem s_give (w : World) (b : Nat) (A : Ar) (n : Int) (h : ArAt w b A) (hn : A.nf < A.room) :
    Calls Try.prog 134 #[.pointer (some ⟨b, 0, none⟩), .int .i64 n] w fun e w' => e = .returned (.tuple #[]) ∧ ArAt w' b (A.give n) ∧ Only (fun i => i = b ∨ i = A.gf) w w' := by
  have h1 : ArAt (w.alloc (.cells #[.int .i64 n] 3)) b A := h.only ((Only.refl (fun _ => False) w).alloc _) id id id id
  obtain ⟨w2, hap, h2, o2⟩ := free_append h1 hn n ⟨w.heap.size, 0, none⟩ (by simp)
  have HAP := Lib.hid hap
  clear hap
  have c2 := h.c2.cell
  have hlt := h.c2.lt
  have d2 := h2.c2.cell
  have e2 := h2.c2.free
  have hs := h.small
  go_enter Try.func134, Try.ntmps134
  go_wp2_with (at_builtin; go_must (refine wpList_append_run rfl _ _ 58 rfl _ _ _ rfl rfl HAP.out ?_))
  clear HAP
  have hz2 : ArAt (w2.setCell ⟨b, 2, none⟩ (.slice (some ⟨A.gf, 0, none⟩) (A.nf + 1) A.room)) b { A with nf := A.nf + 1, fr := upd A.fr A.nf n } := h2.setn (by simp only; omega)
  have o3 : Only (fun i => i = b ∨ i = A.gf) w (w2.setCell ⟨b, 2, none⟩ (.slice (some ⟨A.gf, 0, none⟩) (A.nf + 1) A.room)) := by
    refine Only.setCell ?_ (.inl (.inl rfl)) _
    exact Only.trans (by repeat' (first | (with_reducible exact Only.refl _ _) | (with_reducible assumption) | (refine Only.of_none ?_; with_reducible assumption) | (with_reducible refine Only.drewN ?_ _) | (with_reducible refine Only.drew ?_) | (with_reducible refine Only.alloc ?_ _) | (with_reducible refine Only.setCell ?_ ?_ _) | (with_reducible refine Only.then0 ?_ (by with_reducible assumption)) | (with_reducible refine Only.thenN ?_ (by with_reducible assumption) ?_) | (with_reducible refine Only.trans ?_ (by with_reducible assumption)) | (refine .inl ?_; first | rfl | (simp; done) | (simp [Ar.blk]; done)) | (refine .inr ?_; first | omega | (simp; done) | (simp; omega) | exact Only.size (by with_reducible assumption) | (refine Nat.le_trans (Only.size (by with_reducible assumption)) ?_; simp; done)))) (o2.mono fun _ _ h => .inr h)
  go_loopw [4, 5] (fun i u wr => ∃ (k : Nat) (f : Nat → Int), i = .int .i64 k ∧ k < A.nf + 1 ∧ siftUp (A.nf + 1) f k = siftUp (A.nf + 1) (upd A.fr A.nf n) A.nf ∧ ArAt wr b { A with nf := A.nf + 1, fr := f } ∧ Only (fun i => i = b ∨ i = A.gf) w wr)
    (fun i _ _ => (intOf i).toNat)
  case atStart => exact ⟨A.nf, _, by go_num, by omega, rfl, hz2, o3⟩
  case round =>
    obtain ⟨k, f, rfl, hk, hsift, hA, ho⟩ := hrel
    have c2r := hA.c2.cell
    have hbr := hA.c2.lt
    have hgr := hA.gf_lt
    clear d2 e2 h1 h2 hz2 o2 o3 c2
    by_cases k0 : k = 0
    · subst k0
      have hfin : A.give n = { A with nf := A.nf + 1, fr := f } := by unfold Ar.give; rw [← hsift]; simp [siftUp]
      have HF := Lib.hid hfin
      have HAr := Lib.hid hA
      clear hsift hfin hA
      go_wp2
      go_returns
      exact ⟨rfl, by rw [HF.out]; exact HAr.out, by repeat' (first | (with_reducible exact Only.refl _ _) | (with_reducible assumption) | (refine Only.of_none ?_; with_reducible assumption) | (with_reducible refine Only.drewN ?_ _) | (with_reducible refine Only.drew ?_) | (with_reducible refine Only.alloc ?_ _) | (with_reducible refine Only.setCell ?_ ?_ _) | (with_reducible refine Only.then0 ?_ (by with_reducible assumption)) | (with_reducible refine Only.thenN ?_ (by with_reducible assumption) ?_) | (with_reducible refine Only.trans ?_ (by with_reducible assumption)) | (refine .inl ?_; first | rfl | (simp; done) | (simp [Ar.blk]; done)) | (refine .inr ?_; first | omega | (simp; done) | (simp; omega) | exact Only.size (by with_reducible assumption) | (refine Nat.le_trans (Only.size (by with_reducible assumption)) ?_; simp; done)))⟩
    · obtain ⟨u, hu⟩ : ∃ u, u = (k - 1) / 2 := ⟨_, rfl⟩
      have hup : ((k : Int) - 1) / 2 = ((u : Nat) : Int) := by omega
      have huk : u < k := by omega
      have hk1 : 1 ≤ k := by omega
      have fu := (hA.fc (i := u) (by simp only; omega)).cell
      have fk := (hA.fc (i := k) (by simp only; omega)).cell
      have pu := (hA.fc (i := u) (by simp only; omega)).free
      have pk := (hA.fc (i := k) (by simp only; omega)).free
      simp only at fu fk pu pk c2r hgr
      by_cases hc : f u < f k
      · have hfin : A.give n = { A with nf := A.nf + 1, fr := f } := by unfold Ar.give; rw [← hsift]; simp [siftUp, k0, ← hu, hc]
        have HF := Lib.hid hfin
        have HAr := Lib.hid hA
        clear hsift hfin hA hu k0
        generalize f u = xu at *
        generalize f k = xk at *
        go_wp2
        go_quiet (fail)
        go_wp2
        go_returns
        exact ⟨rfl, by rw [HF.out]; exact HAr.out.drewN _, by repeat' (first | (with_reducible exact Only.refl _ _) | (with_reducible assumption) | (refine Only.of_none ?_; with_reducible assumption) | (with_reducible refine Only.drewN ?_ _) | (with_reducible refine Only.drew ?_) | (with_reducible refine Only.alloc ?_ _) | (with_reducible refine Only.setCell ?_ ?_ _) | (with_reducible refine Only.then0 ?_ (by with_reducible assumption)) | (with_reducible refine Only.thenN ?_ (by with_reducible assumption) ?_) | (with_reducible refine Only.trans ?_ (by with_reducible assumption)) | (refine .inl ?_; first | rfl | (simp; done) | (simp [Ar.blk]; done)) | (refine .inr ?_; first | omega | (simp; done) | (simp; omega) | exact Only.size (by with_reducible assumption) | (refine Nat.le_trans (Only.size (by with_reducible assumption)) ?_; simp; done)))⟩
      · have hnx : siftUp (A.nf + 1) f k = siftUp (A.nf + 1) (swp f u k) u := by
          rw [show siftUp (A.nf + 1) f k = siftUp A.nf (swp f u k) u by simp [siftUp, k0, ← hu, hc]]
          exact siftUp_more _ _ _ _ (by omega) (by omega)
        have hc' : f k ≤ f u := by omega
        have HSW := fun W (hW : ArAt W b { A with nf := A.nf + 1, fr := f }) => Lib.hid ((hW.setf (i := u) (by simp only; omega) (f k)).setf (i := k) (by simp only; omega) (f u))
        have HN := Lib.hid (hnx.symm.trans hsift)
        have HAr := Lib.hid hA
        have HSI := Lib.hid hup
        clear hsift hnx hA hu k0 hc
        generalize hxu : f u = xu at *
        generalize hxk : f k = xk at *
        have HXU := Lib.hid hxu
        have HXK := Lib.hid hxk
        clear hxu hxk
        go_wp2
        go_quiet (fail)
        go_wp2
        go_region
        go_wp2
        go_roundw
        case rel =>
          refine ⟨u, swp f u k, rfl, by omega, HN.out, ?_, by repeat' (first | (with_reducible exact Only.refl _ _) | (with_reducible assumption) | (refine Only.of_none ?_; with_reducible assumption) | (with_reducible refine Only.drewN ?_ _) | (with_reducible refine Only.drew ?_) | (with_reducible refine Only.alloc ?_ _) | (with_reducible refine Only.setCell ?_ ?_ _) | (with_reducible refine Only.then0 ?_ (by with_reducible assumption)) | (with_reducible refine Only.thenN ?_ (by with_reducible assumption) ?_) | (with_reducible refine Only.trans ?_ (by with_reducible assumption)) | (refine .inl ?_; first | rfl | (simp; done) | (simp [Ar.blk]; done)) | (refine .inr ?_; first | omega | (simp; done) | (simp; omega) | exact Only.size (by with_reducible assumption) | (refine Nat.le_trans (Only.size (by with_reducible assumption)) ?_; simp; done)))⟩
          have := (HSW _ (HAr.out.drewN (nq + 1))).out
          rw [← HXU.out, ← HXK.out] at this ⊢
          exact this
        case measure => simp [intOf]; omega
end Str
end Go.Proofs.Ytiiflgihjnlmcaa
