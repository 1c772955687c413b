/- The book in memory; sided, within, half, Room, Len. Conditions: a book as its New lays it. -/
import Derived.Test.YtkglplngnjgnhaaBkQ
import Derived.Laws.OwnMore
namespace Go.Proofs.Ytkglplngnjgnhaa
set_option linter.unusedVariables false
set_option linter.unusedSimpArgs false
open Go.RowKit
open Od (OrdR Lay FreeN Blk4)

/-- The book's blocks, and what lies in them. -/
structure BookM (w : World) (b : Nat) (bs gu : Bool → Nat) (hv : Bool → Value) (ba gl gr gf bm most room : Nat) (L : Bool → List (Int × Nat)) (R : Nat → List Nat) (V : Nat → OrdR) (F : Int → Option Int) (l : Bool → List OrdR) : Prop where
  c0 : Cell w b 0 (.pointer (some ⟨bs false, 0, none⟩))
  c1 : Cell w b 1 (.int .i64 0)
  c2 : Cell w b 2 (.pointer (some ⟨bs true, 0, none⟩))
  c3 : Cell w b 3 (.int .i64 (most : Int))
  c4 : Cell w b 4 (.pointer (some ⟨ba, 0, none⟩))
  c5 : Cell w b 5 (.map (some bm))
  c6 : Cell w b 6 (.int .i64 (room : Int))
  sd : ∀ q, SideAt w (bs q) (gu q) most (sgn q) (hv q) (L q)
  lay : Lay w ba gl gr gf (2 * most + 1) room R V
  im : IMap w bm F ((l false).length + (l true).length)
  rep : BkRep most room L R V F l
  db : (∀ q, ¬ SdB (bs q) (gu q) (hv q) b) ∧ ¬ Blk4 ba gl gr gf b ∧ b ≠ bm
  ds : ∀ i, SdB (bs false) (gu false) (hv false) i → ¬ SdB (bs true) (gu true) (hv true) i
  dq : ∀ q i, SdB (bs q) (gu q) (hv q) i → ¬ Blk4 ba gl gr gf i ∧ i ≠ bm
  da : ∀ i, Blk4 ba gl gr gf i → i ≠ bm
  small : room ≤ 256

/-- The book's blocks. -/
def BkT (b : Nat) (bs gu : Bool → Nat) (hv : Bool → Value) (ba gl gr gf bm : Nat) (i : Nat) : Prop := i = b ∨ (∃ q, SdB (bs q) (gu q) (hv q) i) ∨ Blk4 ba gl gr gf i ∨ i = bm

/-- A book lies at b, in the blocks T: its orders by priority, Buy (false) and Sell (true). -/
def Bk (w : World) (b : Nat) (T : Nat → Prop) (most room : Nat) (l : Bool → List OrdR) : Prop :=
  ∃ bs gu hv ba gl gr gf bm L R V F, BookM w b bs gu hv ba gl gr gf bm most room L R V F l ∧ T = BkT b bs gu hv ba gl gr gf bm

/-- What a call that may turn the book leaves. -/
def BkPost (w : World) (b : Nat) (T : Nat → Prop) (most room : Nat) (l : Bool → List OrdR) (v : Value) (e : Ending) (w' : World) : Prop :=
  ∃ T', e = .returned v ∧ Bk w' b T' most room l ∧ Only T w w' ∧ ∀ i, T' i → T i ∨ w.heap.size ≤ i

section
variable {w : World} {b : Nat} {bs gu : Bool → Nat} {hv : Bool → Value} {ba gl gr gf bm most room : Nat} {L : Bool → List (Int × Nat)} {R : Nat → List Nat} {V : Nat → OrdR} {F : Int → Option Int} {l : Bool → List OrdR}

theorem BookM.only (h : BookM w b bs gu hv ba gl gr gf bm most room L R V F l) {w' : World} {S : Nat → Prop} (o : Only S w w') (hS : ∀ i, BkT b bs gu hv ba gl gr gf bm i → ¬ S i) : BookM w' b bs gu hv ba gl gr gf bm most room L R V F l :=
  have hb := hS b (.inl rfl)
  ⟨h.c0.only o hb, h.c1.only o hb, h.c2.only o hb, h.c3.only o hb, h.c4.only o hb, h.c5.only o hb, h.c6.only o hb,
    fun q => SideU.only (h.sd q) o fun i hi => hS i (.inr (.inl ⟨q, hi⟩)), h.lay.keep o fun i hi => hS i (.inr (.inr (.inl hi))), h.im.only o (hS bm (.inr (.inr (.inr rfl)))), h.rep, h.db, h.ds, h.dq, h.da, h.small⟩
theorem BookM.lt (h : BookM w b bs gu hv ba gl gr gf bm most room L R V F l) (i : Nat) (hi : BkT b bs gu hv ba gl gr gf bm i) : i < w.heap.size := by
  rcases hi with rfl | ⟨q, hi⟩ | hi | rfl
  · exact h.c0.lt
  · exact (h.sd q).blk i hi
  · exact h.lay.blk i hi
  · exact h.im.lt
theorem BookM.bk (h : BookM w b bs gu hv ba gl gr gf bm most room L R V F l) : Bk w b (BkT b bs gu hv ba gl gr gf bm) most room l := ⟨_, _, _, _, _, _, _, _, _, _, _, _, h, rfl⟩
theorem BookM.mostLe (h : BookM w b bs gu hv ba gl gr gf bm most room L R V F l) : most ≤ 128 := (h.sd false).small
theorem BookM.numLe (h : BookM w b bs gu hv ba gl gr gf bm most room L R V F l) : (l false).length + (l true).length ≤ room := h.rep.len
end

theorem Bk.only {w w' : World} {b most room : Nat} {T : Nat → Prop} {l : Bool → List OrdR} (h : Bk w b T most room l) {S : Nat → Prop} (o : Only S w w') (hS : ∀ i, T i → ¬ S i) : Bk w' b T most room l := by
  obtain ⟨_, _, _, _, _, _, _, _, _, _, _, _, h, rfl⟩ := h
  exact (h.only o hS).bk
theorem Bk.lt {w : World} {b most room : Nat} {T : Nat → Prop} {l : Bool → List OrdR} (h : Bk w b T most room l) (i : Nat) (hi : T i) : i < w.heap.size := by
  obtain ⟨_, _, _, _, _, _, _, _, _, _, _, _, h, rfl⟩ := h
  exact h.lt i hi

/-! ### sided, within -/
def sidedB (s : Int) : Bool := decide (s = 1 ∨ s = 2)
theorem k_sided (s : Int) (w : World) : Calls Try.prog 56 #[.int .u8 s] w fun e w' => e = .returned (.bool (sidedB s)) ∧ w = w' := by
  by_cases h1 : s = 1
  · subst h1
    go_enter Try.func56, Try.ntmps56
    go_wp2_with fail
    go_returns
    exact ⟨rfl, rfl⟩
  · have t1 : (s == 1) = false := by simpa using h1
    by_cases h2 : s = 2
    · subst h2
      go_enter Try.func56, Try.ntmps56
      go_wp2_with fail
      go_returns
      exact ⟨rfl, rfl⟩
    · have t2 : (s == 2) = false := by simpa using h2
      have e : sidedB s = false := by simp [sidedB, h1, h2]
      rw [e]
      clear e h1 h2
      go_enter Try.func56, Try.ntmps56
      go_wp2_with fail
      go_returns
      exact ⟨rfl, rfl⟩
def inB (n m : Int) : Bool := decide (1 ≤ n ∧ n ≤ m)
theorem k_within (n m : Int) (w : World) : Calls Try.prog 55 #[.int .i64 n, .int .i64 m] w fun e w' => e = .returned (.bool (inB n m)) ∧ w = w' := by
  by_cases h1 : 1 ≤ n
  · have t1 : decide (1 ≤ n) = true := by simpa using h1
    by_cases h2 : n ≤ m
    · have t2 : decide (n ≤ m) = true := by simpa using h2
      have e : inB n m = true := by simp [inB, h1, h2]
      rw [e]
      clear e h1 h2
      go_enter Try.func55, Try.ntmps55
      go_wp2_with fail
      go_returns
      exact ⟨rfl, rfl⟩
    · have t2 : decide (n ≤ m) = false := by simpa using h2
      have e : inB n m = false := by simp [inB, h1, h2]
      rw [e]
      clear e h1 h2
      go_enter Try.func55, Try.ntmps55
      go_wp2_with fail
      go_returns
      exact ⟨rfl, rfl⟩
  · have t1 : decide (1 ≤ n) = false := by simpa using h1
    have e : inB n m = false := by simp [inB, h1]
    rw [e]
    clear e h1
    go_enter Try.func55, Try.ntmps55
    go_wp2_with fail
    go_returns
    exact ⟨rfl, rfl⟩

section
variable {w : World} {b : Nat} {bs gu : Bool → Nat} {hv : Bool → Value} {ba gl gr gf bm most room : Nat} {L : Bool → List (Int × Nat)} {R : Nat → List Nat} {V : Nat → OrdR} {F : Int → Option Int} {l : Bool → List OrdR}
set_option maxHeartbeats 1000000 in
theorem k_half (h : BookM w b bs gu hv ba gl gr gf bm most room L R V F l) (q : Bool) :
    Calls Try.prog 57 #[.pointer (some ⟨b, 0, none⟩), .int .u8 (sdN q)] w fun e w' => e = .returned (.agg #[.pointer (some ⟨bs q, 0, none⟩), .int .i64 (fst most q : Nat)]) ∧ Only (fun _ => False) w w' := by
  have c0 := h.c0.cell
  have c1 := h.c1.cell
  have c2 := h.c2.cell
  have c3 := h.c3.cell
  have z0 := cell_lt c0
  clear h
  cases q
  · show Calls Try.prog 57 #[.pointer (some ⟨b, 0, none⟩), .int .u8 1] w fun e w' => e = .returned (.agg #[.pointer (some ⟨bs false, 0, none⟩), .int .i64 0]) ∧ Only (fun _ => False) w w'
    generalize bs false = b1 at *
    generalize bs true = b2 at *
    go_enter Try.func57, Try.ntmps57
    go_wp2_with fail
    refine bodyPost_ret (by simp [results, Try.results57, go_sem]; try rfl) rfl ?_
    exact ⟨rfl, by repeat' (first | (with_reducible exact Only.refl _ _) | (with_reducible assumption) | (refine Only.of_none ?_; with_reducible assumption) | (with_reducible refine Only.drewN ?_ _) | (with_reducible refine Only.drew ?_) | (with_reducible refine Only.alloc ?_ _) | (with_reducible refine Only.setCell ?_ ?_ _) | (with_reducible refine Only.then0 ?_ (by with_reducible assumption)) | (with_reducible refine Only.thenN ?_ (by with_reducible assumption) ?_) | (with_reducible refine Only.trans ?_ (by with_reducible assumption)) | (refine .inl ?_; first | rfl | (simp; done) | (simp [Ar.blk]; done)) | (refine .inr ?_; first | omega | (simp; done) | (simp; omega) | exact Only.size (by with_reducible assumption) | (refine Nat.le_trans (Only.size (by with_reducible assumption)) ?_; simp; done)))⟩
  · show Calls Try.prog 57 #[.pointer (some ⟨b, 0, none⟩), .int .u8 2] w fun e w' => e = .returned (.agg #[.pointer (some ⟨bs true, 0, none⟩), .int .i64 (most : Int)]) ∧ Only (fun _ => False) w w'
    generalize bs false = b1 at *
    generalize bs true = b2 at *
    go_enter Try.func57, Try.ntmps57
    go_wp2_with fail
    refine bodyPost_ret (by simp [results, Try.results57, go_sem]; try rfl) rfl ?_
    exact ⟨rfl, by repeat' (first | (with_reducible exact Only.refl _ _) | (with_reducible assumption) | (refine Only.of_none ?_; with_reducible assumption) | (with_reducible refine Only.drewN ?_ _) | (with_reducible refine Only.drew ?_) | (with_reducible refine Only.alloc ?_ _) | (with_reducible refine Only.setCell ?_ ?_ _) | (with_reducible refine Only.then0 ?_ (by with_reducible assumption)) | (with_reducible refine Only.thenN ?_ (by with_reducible assumption) ?_) | (with_reducible refine Only.trans ?_ (by with_reducible assumption)) | (refine .inl ?_; first | rfl | (simp; done) | (simp [Ar.blk]; done)) | (refine .inr ?_; first | omega | (simp; done) | (simp; omega) | exact Only.size (by with_reducible assumption) | (refine Nat.le_trans (Only.size (by with_reducible assumption)) ?_; simp; done)))⟩
theorem k_len (h : BookM w b bs gu hv ba gl gr gf bm most room L R V F l) :
    Calls Try.prog 40 #[.pointer (some ⟨b, 0, none⟩)] w fun e w' => e = .returned (.int .i64 ((l false).length + (l true).length : Nat)) ∧ w = w' := by
  have c5 := h.c5.cell
  have z0 := cell_lt c5
  have hl := h.im.len 3
  generalize (l false).length + (l true).length = k at *
  clear h
  go_enter Try.func40, Try.ntmps40
  go_wp2_with fail
  go_returns
  exact ⟨rfl, rfl⟩
theorem k_room (h : BookM w b bs gu hv ba gl gr gf bm most room L R V F l) :
    Calls Try.prog 26 #[.pointer (some ⟨b, 0, none⟩)] w fun e w' => e = .returned (.int .i64 ((room - ((l false).length + (l true).length) : Nat) : Int)) ∧ Only (fun _ => False) w w' := by
  have c5 := h.c5.cell
  have c6 := h.c6.cell
  have z0 := cell_lt c5
  have hl := fun n => (h.im.only ((Only.refl (fun _ => False) w).drewN n) id).len 3
  have hn := h.numLe
  have hr := h.small
  generalize (l false).length + (l true).length = k at *
  have e1 : (room : Int) - (k : Int) = ((room - k : Nat) : Int) := by omega
  have e2 : IntKind.i64.wrap ((room : Int) - (k : Int)) = ((room - k : Nat) : Int) := by rw [IntKind.wrap_i64]; omega
  clear h
  go_enter Try.func26, Try.ntmps26
  go_wp2_with fail
  go_quiet (fail)
  go_wp2_with fail
  go_returns
  exact ⟨rfl, by repeat' (first | (with_reducible exact Only.refl _ _) | (with_reducible assumption) | (refine Only.of_none ?_; with_reducible assumption) | (with_reducible refine Only.drewN ?_ _) | (with_reducible refine Only.drew ?_) | (with_reducible refine Only.alloc ?_ _) | (with_reducible refine Only.setCell ?_ ?_ _) | (with_reducible refine Only.then0 ?_ (by with_reducible assumption)) | (with_reducible refine Only.thenN ?_ (by with_reducible assumption) ?_) | (with_reducible refine Only.trans ?_ (by with_reducible assumption)) | (refine .inl ?_; first | rfl | (simp; done) | (simp [Ar.blk]; done)) | (refine .inr ?_; first | omega | (simp; done) | (simp; omega) | exact Only.size (by with_reducible assumption) | (refine Nat.le_trans (Only.size (by with_reducible assumption)) ?_; simp; done)))⟩
end
end Go.Proofs.Ytkglplngnjgnhaa
