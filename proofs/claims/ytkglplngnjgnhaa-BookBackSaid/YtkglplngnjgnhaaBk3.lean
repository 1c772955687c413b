/- The book: Insert where it refuses; a book of which one side, the arena and the map have turned. Conditions: a book as its New lays it. -/
import Derived.Test.YtkglplngnjgnhaaBk2
namespace Go.Proofs.Ytkglplngnjgnhaa
set_option linter.unusedVariables false
set_option linter.unusedSimpArgs false
open Go.RowKit
open Od (OrdR Lay FreeN Blk4)

section
variable {w : World} {b : Nat} {bs gu : Bool → Nat} {hv : Bool → Value} {ba gl gr gf bm most room : Nat} {L : Bool → List (Int × Nat)} {R : Nat → List Nat} {V : Nat → OrdR} {F : Int → Option Int} {l : Bool → List OrdR}

/-- What an insertion, a removal, a change may turn. -/
def BkS (bs gu : Bool → Nat) (hv : Bool → Value) (ba gl gr gf bm : Nat) (q : Bool) (i : Nat) : Prop := SdB (bs q) (gu q) (hv q) i ∨ Blk4 ba gl gr gf i ∨ i = bm

theorem BookM.swap (h : BookM w b bs gu hv ba gl gr gf bm most room L R V F l) {w' : World} (q : Bool) {hv' : Value} {L' : List (Int × Nat)} {R' : Nat → List Nat} {V' : Nat → OrdR} {F' : Int → Option Int} {l' : Bool → List OrdR}
    (o : Only (BkS bs gu hv ba gl gr gf bm q) w w') (sd' : SideAt w' (bs q) (gu q) most (sgn q) hv' L') (loc : hv'.ownBlock = (hv q).ownBlock ∨ ∃ g, hv'.ownBlock = some g ∧ w.heap.size ≤ g)
    (lay' : Lay w' ba gl gr gf (2 * most + 1) room R' V') (im' : IMap w' bm F' ((l' false).length + (l' true).length)) (rep' : BkRep most room (setS L q L') R' V' F' l') :
    BookM w' b bs gu (setS hv q hv') ba gl gr gf bm most room (setS L q L') R' V' F' l' ∧ (∀ i, BkT b bs gu (setS hv q hv') ba gl gr gf bm i → BkT b bs gu hv ba gl gr gf bm i ∨ w.heap.size ≤ i) := by
  have hb : ¬ BkS bs gu hv ba gl gr gf bm q b := by
    rintro (h1 | h1 | h1)
    · exact h.db.1 q h1
    · exact h.db.2.1 h1
    · exact h.db.2.2 h1
  have old : ∀ k i, SdB (bs k) (gu k) (setS hv q hv' k) i → SdB (bs k) (gu k) (hv k) i ∨ (k = q ∧ w.heap.size ≤ i) := by
    intro k i hi
    by_cases e : k = q
    · subst e
      rw [setS_same] at hi
      rcases hi with h1 | h1 | h1
      · exact .inl (.inl h1)
      · exact .inl (.inr (.inl h1))
      · rcases loc with h2 | ⟨g, h2, h3⟩
        · exact .inl (.inr (.inr (by rw [← h2]; exact h1)))
        · rw [h2] at h1; injection h1 with h1; exact .inr ⟨rfl, by omega⟩
    · rw [setS_other e] at hi; exact .inl hi
  have lt := h.lt
  refine ⟨⟨h.c0.only o hb, h.c1.only o hb, h.c2.only o hb, h.c3.only o hb, h.c4.only o hb, h.c5.only o hb, h.c6.only o hb, fun k => ?_, lay', im', rep', ⟨fun k hk => ?_, h.db.2⟩, fun i h1 h2 => ?_, fun k i hk => ?_, h.da, h.small⟩, fun i hi => ?_⟩
  · by_cases e : k = q
    · subst e; rw [setS_same, setS_same]; exact sd'
    · rw [setS_other e, setS_other e]
      refine SideU.only (h.sd k) o fun i hi => ?_
      rintro (h1 | h1 | h1)
      · cases k <;> cases q <;> simp at e
        · exact h.ds i hi h1
        · exact h.ds i h1 hi
      · exact (h.dq k i hi).1 h1
      · exact (h.dq k i hi).2 h1
  · rcases old k b hk with h1 | ⟨_, h1⟩
    · exact h.db.1 k h1
    · have := lt b (.inl rfl); omega
  · rcases old false i h1 with h3 | ⟨h3, h5⟩
    · rcases old true i h2 with h4 | ⟨h4, h5⟩
      · exact h.ds i h3 h4
      · have := lt i (.inr (.inl ⟨false, h3⟩)); omega
    · rcases old true i h2 with h4 | ⟨h4, h6⟩
      · have := lt i (.inr (.inl ⟨true, h4⟩)); omega
      · rw [← h3] at h4; cases h4
  · rcases old k i hk with h1 | ⟨_, h1⟩
    · exact h.dq k i h1
    · exact ⟨fun h2 => by have := lt i (.inr (.inr (.inl h2))); omega, fun h2 => by have := lt i (.inr (.inr (.inr h2))); omega⟩
  · rcases hi with h1 | ⟨k, h1⟩ | h1 | h1
    · exact .inl (.inl h1)
    · rcases old k i h1 with h2 | ⟨_, h2⟩
      · exact .inl (.inr (.inl ⟨k, h2⟩))
      · exact .inr h2
    · exact .inl (.inr (.inr (.inl h1)))
    · exact .inl (.inr (.inr (.inr h1)))
theorem BookM.post (h : BookM w b bs gu hv ba gl gr gf bm most room L R V F l) {w' : World} (q : Bool) {hv' : Value} {L' : List (Int × Nat)} {R' : Nat → List Nat} {V' : Nat → OrdR} {F' : Int → Option Int} {l' : Bool → List OrdR} {v : Value} {e : Ending} (he : e = .returned v)
    (o : Only (BkS bs gu hv ba gl gr gf bm q) w w') (sd' : SideAt w' (bs q) (gu q) most (sgn q) hv' L') (loc : hv'.ownBlock = (hv q).ownBlock ∨ ∃ g, hv'.ownBlock = some g ∧ w.heap.size ≤ g)
    (lay' : Lay w' ba gl gr gf (2 * most + 1) room R' V') (im' : IMap w' bm F' ((l' false).length + (l' true).length)) (rep' : BkRep most room (setS L q L') R' V' F' l') :
    BkPost w b (BkT b bs gu hv ba gl gr gf bm) most room l' v e w' := by
  obtain ⟨h1, h2⟩ := h.swap q o sd' loc lay' im' rep'
  exact ⟨_, he, h1.bk, o.mono fun i _ hi => by
    rcases hi with h3 | h3 | h3
    · exact .inr (.inl ⟨q, h3⟩)
    · exact .inr (.inr (.inl h3))
    · exact .inr (.inr (.inr h3)), h2⟩
theorem BookM.stay (h : BookM w b bs gu hv ba gl gr gf bm most room L R V F l) {w' : World} {v : Value} {e : Ending} (he : e = .returned v) (o : Only (fun _ => False) w w') : BkPost w b (BkT b bs gu hv ba gl gr gf bm) most room l v e w' :=
  ⟨_, he, (h.only o (fun _ _ => id)).bk, Only.of_none o, fun _ hi => .inl hi⟩

/-- May an order rest? -/
def mayB (o : OrdR) : Bool := decide (1 ≤ o.i) && inB o.c 8 && sidedB o.s && inB o.p 1000000000 && inB o.q 1000000000

set_option maxRecDepth 100000 in
set_option maxHeartbeats 2000000 in
theorem k_ins_bad (o : OrdR) (hm : mayB o = false) : Calls Try.prog 24 #[.pointer (some ⟨b, 0, none⟩), ordV o] w fun e w' => e = .returned (.int .i64 1) ∧ Only (fun _ => False) w w' := by
  obtain ⟨oi, oc, os, op, oq⟩ := o
  unfold mayB at hm
  unfold ordV
  simp only at hm ⊢
  by_cases h1 : 1 ≤ oi
  · have t1 : decide (1 ≤ oi) = true := by simpa using h1
    cases h2 : inB oc 8 with
    | true =>
      cases h3 : sidedB os with
      | true =>
        cases h4 : inB op 1000000000 with
        | true =>
          have h5 : inB oq 1000000000 = false := by rw [t1, h2, h3, h4] at hm; simpa using hm
          clear hm h1
          go_enter Try.func24, Try.ntmps24
          go_wp2_with (first | (go_at_call 55; refine (k_within _ _ _).mono ?_; rintro e w1 ⟨rfl, rfl⟩) | (go_at_call 56; refine (k_sided _ _).mono ?_; rintro e w1 ⟨rfl, rfl⟩))
          go_returns
          exact ⟨rfl, by repeat' (first | (with_reducible exact Only.refl _ _) | (with_reducible assumption) | (refine Only.of_none ?_; with_reducible assumption) | (with_reducible refine Only.drewN ?_ _) | (with_reducible refine Only.drew ?_) | (with_reducible refine Only.alloc ?_ _) | (with_reducible refine Only.setCell ?_ ?_ _) | (with_reducible refine Only.then0 ?_ (by with_reducible assumption)) | (with_reducible refine Only.thenN ?_ (by with_reducible assumption) ?_) | (with_reducible refine Only.trans ?_ (by with_reducible assumption)) | (refine .inl ?_; first | rfl | (simp; done) | (simp [Ar.blk]; done)) | (refine .inr ?_; first | omega | (simp; done) | (simp; omega) | exact Only.size (by with_reducible assumption) | (refine Nat.le_trans (Only.size (by with_reducible assumption)) ?_; simp; done)))⟩
        | false =>
          clear hm h1
          go_enter Try.func24, Try.ntmps24
          go_wp2_with (first | (go_at_call 55; refine (k_within _ _ _).mono ?_; rintro e w1 ⟨rfl, rfl⟩) | (go_at_call 56; refine (k_sided _ _).mono ?_; rintro e w1 ⟨rfl, rfl⟩))
          go_returns
          exact ⟨rfl, by repeat' (first | (with_reducible exact Only.refl _ _) | (with_reducible assumption) | (refine Only.of_none ?_; with_reducible assumption) | (with_reducible refine Only.drewN ?_ _) | (with_reducible refine Only.drew ?_) | (with_reducible refine Only.alloc ?_ _) | (with_reducible refine Only.setCell ?_ ?_ _) | (with_reducible refine Only.then0 ?_ (by with_reducible assumption)) | (with_reducible refine Only.thenN ?_ (by with_reducible assumption) ?_) | (with_reducible refine Only.trans ?_ (by with_reducible assumption)) | (refine .inl ?_; first | rfl | (simp; done) | (simp [Ar.blk]; done)) | (refine .inr ?_; first | omega | (simp; done) | (simp; omega) | exact Only.size (by with_reducible assumption) | (refine Nat.le_trans (Only.size (by with_reducible assumption)) ?_; simp; done)))⟩
      | false =>
        clear hm h1
        go_enter Try.func24, Try.ntmps24
        go_wp2_with (first | (go_at_call 55; refine (k_within _ _ _).mono ?_; rintro e w1 ⟨rfl, rfl⟩) | (go_at_call 56; refine (k_sided _ _).mono ?_; rintro e w1 ⟨rfl, rfl⟩))
        go_returns
        exact ⟨rfl, by repeat' (first | (with_reducible exact Only.refl _ _) | (with_reducible assumption) | (refine Only.of_none ?_; with_reducible assumption) | (with_reducible refine Only.drewN ?_ _) | (with_reducible refine Only.drew ?_) | (with_reducible refine Only.alloc ?_ _) | (with_reducible refine Only.setCell ?_ ?_ _) | (with_reducible refine Only.then0 ?_ (by with_reducible assumption)) | (with_reducible refine Only.thenN ?_ (by with_reducible assumption) ?_) | (with_reducible refine Only.trans ?_ (by with_reducible assumption)) | (refine .inl ?_; first | rfl | (simp; done) | (simp [Ar.blk]; done)) | (refine .inr ?_; first | omega | (simp; done) | (simp; omega) | exact Only.size (by with_reducible assumption) | (refine Nat.le_trans (Only.size (by with_reducible assumption)) ?_; simp; done)))⟩
    | false =>
      clear hm h1
      go_enter Try.func24, Try.ntmps24
      go_wp2_with (first | (go_at_call 55; refine (k_within _ _ _).mono ?_; rintro e w1 ⟨rfl, rfl⟩) | (go_at_call 56; refine (k_sided _ _).mono ?_; rintro e w1 ⟨rfl, rfl⟩))
      go_returns
      exact ⟨rfl, by repeat' (first | (with_reducible exact Only.refl _ _) | (with_reducible assumption) | (refine Only.of_none ?_; with_reducible assumption) | (with_reducible refine Only.drewN ?_ _) | (with_reducible refine Only.drew ?_) | (with_reducible refine Only.alloc ?_ _) | (with_reducible refine Only.setCell ?_ ?_ _) | (with_reducible refine Only.then0 ?_ (by with_reducible assumption)) | (with_reducible refine Only.thenN ?_ (by with_reducible assumption) ?_) | (with_reducible refine Only.trans ?_ (by with_reducible assumption)) | (refine .inl ?_; first | rfl | (simp; done) | (simp [Ar.blk]; done)) | (refine .inr ?_; first | omega | (simp; done) | (simp; omega) | exact Only.size (by with_reducible assumption) | (refine Nat.le_trans (Only.size (by with_reducible assumption)) ?_; simp; done)))⟩
  · have t1 : decide (1 ≤ oi) = false := by simpa using h1
    clear hm h1
    go_enter Try.func24, Try.ntmps24
    go_wp2_with fail
    go_returns
    exact ⟨rfl, by repeat' (first | (with_reducible exact Only.refl _ _) | (with_reducible assumption) | (refine Only.of_none ?_; with_reducible assumption) | (with_reducible refine Only.drewN ?_ _) | (with_reducible refine Only.drew ?_) | (with_reducible refine Only.alloc ?_ _) | (with_reducible refine Only.setCell ?_ ?_ _) | (with_reducible refine Only.then0 ?_ (by with_reducible assumption)) | (with_reducible refine Only.thenN ?_ (by with_reducible assumption) ?_) | (with_reducible refine Only.trans ?_ (by with_reducible assumption)) | (refine .inl ?_; first | rfl | (simp; done) | (simp [Ar.blk]; done)) | (refine .inr ?_; first | omega | (simp; done) | (simp; omega) | exact Only.size (by with_reducible assumption) | (refine Nat.le_trans (Only.size (by with_reducible assumption)) ?_; simp; done)))⟩

/-- The test's five parts. -/
theorem mayB_parts {o : OrdR} (hm : mayB o = true) : decide (1 ≤ o.i) = true ∧ inB o.c 8 = true ∧ sidedB o.s = true ∧ inB o.p 1000000000 = true ∧ inB o.q 1000000000 = true := by
  unfold mayB at hm
  simp only [Bool.and_eq_true] at hm
  exact ⟨hm.1.1.1.1, hm.1.1.1.2, hm.1.1.2, hm.1.2, hm.2⟩

set_option maxRecDepth 100000 in
set_option maxHeartbeats 2000000 in
theorem k_ins_twice (h : BookM w b bs gu hv ba gl gr gf bm most room L R V F l) (o : OrdR) (hm : mayB o = true) (hw : Wf o.i) (hf : (F o.i).isSome = true) :
    Calls Try.prog 24 #[.pointer (some ⟨b, 0, none⟩), ordV o] w fun e w' => e = .returned (.int .i64 62) ∧ Only (fun _ => False) w w' := by
  obtain ⟨h1, h2, h3, h4, h5⟩ := mayB_parts hm
  obtain ⟨oi, oc, os, op, oq⟩ := o
  unfold ordV
  simp only at *
  have o0 := (Only.refl (fun _ => False) w).alloc (.cells #[.int .i64 oi, .int .i64 oc, .int .u8 os, .int .i64 op, .int .i64 oq] 54)
  have c5 := (h.only o0 (fun _ _ => id)).c5.cell
  have hl := fun n => (h.only (o0.drewN n) (fun _ _ => id)).im.look hw
  obtain ⟨v, hv⟩ : ∃ v, v = (F oi).getD 0 := ⟨_, rfl⟩
  rw [hf, ← hv] at hl
  have z0 := h.c5.lt
  clear h hm hw hf o0 hv
  go_enter Try.func24, Try.ntmps24
  go_wp2_with (first | (go_at_call 55; refine (k_within _ _ _).mono ?_; rintro e w1 ⟨rfl, rfl⟩) | (go_at_call 56; refine (k_sided _ _).mono ?_; rintro e w1 ⟨rfl, rfl⟩))
  go_quiet (fail)
  go_wp2_with fail
  go_returns
  exact ⟨rfl, by repeat' (first | (with_reducible exact Only.refl _ _) | (with_reducible assumption) | (refine Only.of_none ?_; with_reducible assumption) | (with_reducible refine Only.drewN ?_ _) | (with_reducible refine Only.drew ?_) | (with_reducible refine Only.alloc ?_ _) | (with_reducible refine Only.setCell ?_ ?_ _) | (with_reducible refine Only.then0 ?_ (by with_reducible assumption)) | (with_reducible refine Only.thenN ?_ (by with_reducible assumption) ?_) | (with_reducible refine Only.trans ?_ (by with_reducible assumption)) | (refine .inl ?_; first | rfl | (simp; done) | (simp [Ar.blk]; done)) | (refine .inr ?_; first | omega | (simp; done) | (simp; omega) | exact Only.size (by with_reducible assumption) | (refine Nat.le_trans (Only.size (by with_reducible assumption)) ?_; simp; done)))⟩

set_option maxRecDepth 100000 in
set_option maxHeartbeats 2000000 in
theorem k_ins_fits (h : BookM w b bs gu hv ba gl gr gf bm most room L R V F l) (o : OrdR) (q : Bool) (hs : o.s = sdN q) (hm : mayB o = true) (hw : Wf o.i) (hf : F o.i = none) (hE : fitsE most room l q o.p ≠ 0) :
    Calls Try.prog 24 #[.pointer (some ⟨b, 0, none⟩), ordV o] w fun e w' => e = .returned (.int .i64 (fitsE most room l q o.p)) ∧ Only (fun _ => False) w w' := by
  obtain ⟨h1, h2, h3, h4, h5⟩ := mayB_parts hm
  obtain ⟨oi, oc, os, op, oq⟩ := o
  unfold ordV
  simp only at *
  have o0 := (Only.refl (fun _ => False) w).alloc (.cells #[.int .i64 oi, .int .i64 oc, .int .u8 os, .int .i64 op, .int .i64 oq] 54)
  have c5 := (h.only o0 (fun _ _ => id)).c5.cell
  have hl := fun n => (h.only (o0.drewN n) (fun _ _ => id)).im.look hw
  have HF := Lib.hid fun W (o : Only (fun _ => False) w W) => k_fits (h.only o (fun _ _ => id)) q op
  rw [← hs] at HF
  rw [hf] at hl
  simp only [Option.getD_none, Option.isSome_none] at hl
  have z0 := h.c5.lt
  obtain ⟨E, hEE⟩ : ∃ E, E = fitsE most room l q op := ⟨_, rfl⟩
  rw [← hEE] at HF hE ⊢
  have t1 : (E != 0) = true := by simpa using hE
  clear h hm hw hf o0 hE hEE hs
  go_enter Try.func24, Try.ntmps24
  go_wp2_with (first | (go_at_call 55; refine (k_within _ _ _).mono ?_; rintro e w1 ⟨rfl, rfl⟩) | (go_at_call 56; refine (k_sided _ _).mono ?_; rintro e w1 ⟨rfl, rfl⟩))
  go_quiet (fail)
  go_wp2_with fail
  refine (HF.out _ (by repeat' (first | (with_reducible exact Only.refl _ _) | (with_reducible assumption) | (refine Only.of_none ?_; with_reducible assumption) | (with_reducible refine Only.drewN ?_ _) | (with_reducible refine Only.drew ?_) | (with_reducible refine Only.alloc ?_ _) | (with_reducible refine Only.setCell ?_ ?_ _) | (with_reducible refine Only.then0 ?_ (by with_reducible assumption)) | (with_reducible refine Only.thenN ?_ (by with_reducible assumption) ?_) | (with_reducible refine Only.trans ?_ (by with_reducible assumption)) | (refine .inl ?_; first | rfl | (simp; done) | (simp [Ar.blk]; done)) | (refine .inr ?_; first | omega | (simp; done) | (simp; omega) | exact Only.size (by with_reducible assumption) | (refine Nat.le_trans (Only.size (by with_reducible assumption)) ?_; simp; done))))).mono ?_
  rintro e w1 ⟨rfl, o1⟩
  go_wp2_with fail
  go_returns
  exact ⟨rfl, by repeat' (first | (with_reducible exact Only.refl _ _) | (with_reducible assumption) | (refine Only.of_none ?_; with_reducible assumption) | (with_reducible refine Only.drewN ?_ _) | (with_reducible refine Only.drew ?_) | (with_reducible refine Only.alloc ?_ _) | (with_reducible refine Only.setCell ?_ ?_ _) | (with_reducible refine Only.then0 ?_ (by with_reducible assumption)) | (with_reducible refine Only.thenN ?_ (by with_reducible assumption) ?_) | (with_reducible refine Only.trans ?_ (by with_reducible assumption)) | (refine .inl ?_; first | rfl | (simp; done) | (simp [Ar.blk]; done)) | (refine .inr ?_; first | omega | (simp; done) | (simp; omega) | exact Only.size (by with_reducible assumption) | (refine Nat.le_trans (Only.size (by with_reducible assumption)) ?_; simp; done)))⟩
end
end Go.Proofs.Ytkglplngnjgnhaa
