/- Slots: give, walked. Conditions: an arena as New lays it, with a place for the number. -/
import Derived.Test.YtkglplngnjgnhaaOrd1
namespace Go.Proofs.Ytkglplngnjgnhaa
set_option linter.unusedVariables false
set_option linter.unusedSimpArgs false
namespace Od
open Go.RowKit

--<shared>
theorem Try.infoInt : (Try.prog.info? 3).map (fun i => (i.zero, i.size, i.bytes)) = some (some (.int .i64 0), 1, 8) := by kernel_rfl

set_option maxRecDepth 100000 in
/-- The append of one number, where there is room. -/
theorem free_append {w : World} {b : Nat} {A : Ar} (h : ArAt w b A) (hn : A.nf < A.room) (n : Int) (a : Addr) (ha : w.cell? a = some (.int .i64 n)) :
    ∃ w', (Builtin.append_ #[164, 164] 164 #[.slice (some ⟨A.gf, 0, none⟩) A.nf A.room, .slice (some a) 1 1]).run Try.prog w = .ok (.slice (some ⟨A.gf, 0, none⟩) (A.nf + 1) A.room) w' ∧
      ArAt w' b { A with fr := upd A.fr A.nf n } ∧ Only (· = A.gf) w w' := by
  obtain ⟨i0, hi, hz0, hz1, hz2⟩ := info_parts Try.infoInt
  have hrun := run_append_room (P := Try.prog) (w := w) 164 164 3 i0 Try.underlying164 hi A.gf A.nf A.room (freeV A).toArray h.f a 1 1 [.int .i64 n] (by rw [hz1]; rfl)
    (fun j u hj => by
      cases j with
      | zero => simp at hj; subst hj; simpa [Addr.add] using ha
      | succ j => simp at hj) (by simp [Value.oneCell']) (by omega) (by rw [hz1]; simp [freeV]; omega)
  refine ⟨_, hrun, ?_, ?_⟩
  · have e : w.setRow A.gf (((freeV A).toArray.toList.take (A.nf * i0.size) ++ [Value.int .i64 n] ++ (freeV A).toArray.toList.drop (A.nf * i0.size + [Value.int .i64 n].length)).toArray) = w.setCell ⟨A.gf, A.nf, none⟩ (.int .i64 n) := by
      unfold World.setRow World.setCell
      simp only [hz1, Nat.mul_one, List.length_cons, List.length_nil, Nat.zero_add]
      congr 1
      apply Array.ext_getElem?
      intro k
      rw [Array.getElem?_modify, Array.getElem?_modify]
      by_cases hk : A.gf = k
      · subst hk
        simp only [if_pos, h.f, Option.map_some, Option.isSome_none, Bool.false_eq_true, if_false]
        congr 2
        simp only [List.setIfInBounds_toArray, Array.mk.injEq]
        apply List.ext_getElem?
        intro k
        have hl : (freeV A).length = A.room := by simp [freeV]
        rw [List.getElem?_set]
        by_cases hk : A.nf = k
        · subst hk
          rw [if_pos rfl, if_pos (by omega), List.append_assoc, List.getElem?_append_right (by rw [List.length_take]; omega)]
          simp [List.length_take, hl, show min A.nf A.room = A.nf by omega]
        · rw [if_neg hk]
          rcases Nat.lt_or_ge k A.nf with hlt | hge
          · rw [List.append_assoc, List.getElem?_append_left (by rw [List.length_take]; omega), List.getElem?_take_of_lt hlt]
          · rw [List.getElem?_append_right (by simp [hl]; omega), List.getElem?_drop]
            congr 1
            simp [hl, show min A.nf A.room = A.nf by omega]
            omega
      · simp only [if_neg hk]
    rw [e]
    exact h.setf hn n
  · refine ⟨rfl, rfl, rfl, by simp [World.setRow], fun k hk hne => ?_⟩
    unfold World.setRow
    simp only [Array.getElem?_modify]
    rw [if_neg (fun e => hne e.symm)]

--</shared>
set_option maxHeartbeats 1000000 in
set_option maxRecDepth 100000 in
theorem s_give (w : World) (b : Nat) (A : Ar) (n : Int) (h : ArAt w b A) (hn : A.nf < A.room) :
    Calls Try.prog 102 #[.pointer (some ⟨b, 0, none⟩), .int .i64 n] w fun e w' => e = .returned (.tuple #[]) ∧ ArAt w' b (A.give n) ∧ Only (fun i => i = b ∨ i = A.gf) w w' := by
  have h1 : ArAt (w.alloc (.cells #[.int .i64 n] 3)) b A := h.only ((Only.refl (fun _ => False) w).alloc _) id id id id
  obtain ⟨w2, hap, h2, o2⟩ := free_append h1 hn n ⟨w.heap.size, 0, none⟩ (by simp)
  have HAP := Lib.hid hap
  clear hap
  have c2 := h.c2.cell
  have hlt := h.c2.lt
  have d2 := h2.c2.cell
  have e2 := h2.c2.free
  have hs := h.small
  go_enter Try.func102, Try.ntmps102
  go_wp2_with (at_builtin; go_must (refine wpList_append_run rfl _ _ 164 rfl _ _ _ rfl rfl HAP.out ?_))
  clear HAP
  have hz2 : ArAt (w2.setCell ⟨b, 2, none⟩ (.slice (some ⟨A.gf, 0, none⟩) (A.nf + 1) A.room)) b { A with nf := A.nf + 1, fr := upd A.fr A.nf n } := h2.setn (by simp only; omega)
  have o3 : Only (fun i => i = b ∨ i = A.gf) w (w2.setCell ⟨b, 2, none⟩ (.slice (some ⟨A.gf, 0, none⟩) (A.nf + 1) A.room)) := by
    refine Only.setCell ?_ (.inl (.inl rfl)) _
    exact Only.trans (by repeat' (first | (with_reducible exact Only.refl _ _) | (with_reducible assumption) | (refine Only.of_none ?_; with_reducible assumption) | (with_reducible refine Only.drewN ?_ _) | (with_reducible refine Only.drew ?_) | (with_reducible refine Only.alloc ?_ _) | (with_reducible refine Only.setCell ?_ ?_ _) | (with_reducible refine Only.then0 ?_ (by with_reducible assumption)) | (with_reducible refine Only.thenN ?_ (by with_reducible assumption) ?_) | (with_reducible refine Only.trans ?_ (by with_reducible assumption)) | (refine .inl ?_; first | rfl | (simp; done) | (simp [Ar.blk]; done)) | (refine .inr ?_; first | omega | (simp; done) | (simp; omega) | exact Only.size (by with_reducible assumption) | (refine Nat.le_trans (Only.size (by with_reducible assumption)) ?_; simp; done)))) (o2.mono fun _ _ h => .inr h)
  go_loopw [4, 5] (fun i u wr => ∃ (k : Nat) (f : Nat → Int), i = .int .i64 k ∧ k < A.nf + 1 ∧ siftUp (A.nf + 1) f k = siftUp (A.nf + 1) (upd A.fr A.nf n) A.nf ∧ ArAt wr b { A with nf := A.nf + 1, fr := f } ∧ Only (fun i => i = b ∨ i = A.gf) w wr)
    (fun i _ _ => (intOf i).toNat)
  case atStart => exact ⟨A.nf, _, by go_num, by omega, rfl, hz2, o3⟩
  case round =>
    obtain ⟨k, f, rfl, hk, hsift, hA, ho⟩ := hrel
    have c2r := hA.c2.cell
    have hbr := hA.c2.lt
    have hgr := hA.gf_lt
    clear d2 e2 h1 h2 hz2 o2 o3 c2
    by_cases k0 : k = 0
    · subst k0
      have hfin : A.give n = { A with nf := A.nf + 1, fr := f } := by unfold Ar.give; rw [← hsift]; simp [siftUp]
      have HF := Lib.hid hfin
      have HAr := Lib.hid hA
      clear hsift hfin hA
      go_wp2
      go_returns
      exact ⟨rfl, by rw [HF.out]; exact HAr.out, by repeat' (first | (with_reducible exact Only.refl _ _) | (with_reducible assumption) | (refine Only.of_none ?_; with_reducible assumption) | (with_reducible refine Only.drewN ?_ _) | (with_reducible refine Only.drew ?_) | (with_reducible refine Only.alloc ?_ _) | (with_reducible refine Only.setCell ?_ ?_ _) | (with_reducible refine Only.then0 ?_ (by with_reducible assumption)) | (with_reducible refine Only.thenN ?_ (by with_reducible assumption) ?_) | (with_reducible refine Only.trans ?_ (by with_reducible assumption)) | (refine .inl ?_; first | rfl | (simp; done) | (simp [Ar.blk]; done)) | (refine .inr ?_; first | omega | (simp; done) | (simp; omega) | exact Only.size (by with_reducible assumption) | (refine Nat.le_trans (Only.size (by with_reducible assumption)) ?_; simp; done)))⟩
    · obtain ⟨u, hu⟩ : ∃ u, u = (k - 1) / 2 := ⟨_, rfl⟩
      have hup : ((k : Int) - 1) / 2 = ((u : Nat) : Int) := by omega
      have huk : u < k := by omega
      have hk1 : 1 ≤ k := by omega
      have fu := (hA.fc (i := u) (by simp only; omega)).cell
      have fk := (hA.fc (i := k) (by simp only; omega)).cell
      have pu := (hA.fc (i := u) (by simp only; omega)).free
      have pk := (hA.fc (i := k) (by simp only; omega)).free
      simp only at fu fk pu pk c2r hgr
      by_cases hc : f u < f k
      · have hfin : A.give n = { A with nf := A.nf + 1, fr := f } := by unfold Ar.give; rw [← hsift]; simp [siftUp, k0, ← hu, hc]
        have HF := Lib.hid hfin
        have HAr := Lib.hid hA
        clear hsift hfin hA hu k0
        generalize f u = xu at *
        generalize f k = xk at *
        go_wp2
        go_quiet (fail)
        go_wp2
        go_returns
        exact ⟨rfl, by rw [HF.out]; exact HAr.out.drewN _, by repeat' (first | (with_reducible exact Only.refl _ _) | (with_reducible assumption) | (refine Only.of_none ?_; with_reducible assumption) | (with_reducible refine Only.drewN ?_ _) | (with_reducible refine Only.drew ?_) | (with_reducible refine Only.alloc ?_ _) | (with_reducible refine Only.setCell ?_ ?_ _) | (with_reducible refine Only.then0 ?_ (by with_reducible assumption)) | (with_reducible refine Only.thenN ?_ (by with_reducible assumption) ?_) | (with_reducible refine Only.trans ?_ (by with_reducible assumption)) | (refine .inl ?_; first | rfl | (simp; done) | (simp [Ar.blk]; done)) | (refine .inr ?_; first | omega | (simp; done) | (simp; omega) | exact Only.size (by with_reducible assumption) | (refine Nat.le_trans (Only.size (by with_reducible assumption)) ?_; simp; done)))⟩
      · have hnx : siftUp (A.nf + 1) f k = siftUp (A.nf + 1) (swp f u k) u := by
          rw [show siftUp (A.nf + 1) f k = siftUp A.nf (swp f u k) u by simp [siftUp, k0, ← hu, hc]]
          exact siftUp_more _ _ _ _ (by omega) (by omega)
        have hc' : f k ≤ f u := by omega
        have HSW := fun W (hW : ArAt W b { A with nf := A.nf + 1, fr := f }) => Lib.hid ((hW.setf (i := u) (by simp only; omega) (f k)).setf (i := k) (by simp only; omega) (f u))
        have HN := Lib.hid (hnx.symm.trans hsift)
        have HAr := Lib.hid hA
        have HSI := Lib.hid hup
        clear hsift hnx hA hu k0 hc
        generalize hxu : f u = xu at *
        generalize hxk : f k = xk at *
        have HXU := Lib.hid hxu
        have HXK := Lib.hid hxk
        clear hxu hxk
        go_wp2
        go_quiet (fail)
        go_wp2
        go_region
        go_wp2
        go_roundw
        case rel =>
          refine ⟨u, swp f u k, rfl, by omega, HN.out, ?_, by repeat' (first | (with_reducible exact Only.refl _ _) | (with_reducible assumption) | (refine Only.of_none ?_; with_reducible assumption) | (with_reducible refine Only.drewN ?_ _) | (with_reducible refine Only.drew ?_) | (with_reducible refine Only.alloc ?_ _) | (with_reducible refine Only.setCell ?_ ?_ _) | (with_reducible refine Only.then0 ?_ (by with_reducible assumption)) | (with_reducible refine Only.thenN ?_ (by with_reducible assumption) ?_) | (with_reducible refine Only.trans ?_ (by with_reducible assumption)) | (refine .inl ?_; first | rfl | (simp; done) | (simp [Ar.blk]; done)) | (refine .inr ?_; first | omega | (simp; done) | (simp; omega) | exact Only.size (by with_reducible assumption) | (refine Nat.le_trans (Only.size (by with_reducible assumption)) ?_; simp; done)))⟩
          have := (HSW _ (HAr.out.drewN (nq + 1))).out
          rw [← HXU.out, ← HXK.out] at this ⊢
          exact this
        case measure => simp [intOf]; omega
end Od
end Go.Proofs.Ytkglplngnjgnhaa
