/- Slots: the calls that only look, walked. Conditions: an arena as New lays it. -/
import Derived.Test.YtilngakgofjmpaaJ3
import Derived.Laws.MakeOwn
import Derived.Laws.OwnMore
namespace Go.Proofs.Ytilngakgofjmpaa
set_option linter.unusedVariables false
set_option linter.unusedSimpArgs false
namespace Od
open Go.RowKit

--<shared>
def Ar.isRow (A : Ar) (r : Int) : Prop := 0 ≤ r ∧ r < A.nr
instance (A : Ar) (r : Int) : Decidable (A.isRow r) := by unfold Ar.isRow; infer_instance
def Ar.hasN (A : Ar) (n : Int) : Prop := (0 ≤ n ∧ n < A.room) ∧ A.ro n.toNat ≠ -1
instance (A : Ar) (n : Int) : Decidable (A.hasN n) := by unfold Ar.hasN; infer_instance

--</shared>
set_option maxHeartbeats 1000000 in
theorem s_is (w : World) (b : Nat) (A : Ar) (r : Int) (h : ArAt w b A) :
    Calls Try.prog 127 #[.pointer (some ⟨b, 0, none⟩), .int .i64 r] w fun e w' => e = .returned (.bool (decide (A.isRow r))) ∧ w = w' := by
  have c1 := h.c1.cell
  have hlt := h.c1.lt
  have hs := h.small.2.1
  clear h
  unfold Ar.isRow
  by_cases h1 : 0 ≤ r
  · by_cases h2 : r < A.nr
    · have e : decide (0 ≤ r ∧ r < (A.nr : Int)) = true := by simp [h1, h2]
      rw [e]; clear e
      go_enter Try.func127, Try.ntmps127
      go_wp2
      go_ret
      exact ⟨rfl, rfl⟩
    · have e : decide (0 ≤ r ∧ r < (A.nr : Int)) = false := by simp; omega
      have h3 : decide (r < (A.nr : Int)) = false := by simpa using h2
      rw [e]; clear e h2
      go_enter Try.func127, Try.ntmps127
      go_wp2
      go_ret
      exact ⟨rfl, rfl⟩
  · have e : decide (0 ≤ r ∧ r < (A.nr : Int)) = false := by simp; omega
    have h3 : decide (0 ≤ r) = false := by simpa using h1
    rw [e]; clear e h1
    go_enter Try.func127, Try.ntmps127
    go_wp2
    go_ret
    exact ⟨rfl, rfl⟩

set_option maxHeartbeats 1000000 in
theorem s_has (w : World) (b : Nat) (A : Ar) (n : Int) (h : ArAt w b A) :
    Calls Try.prog 129 #[.pointer (some ⟨b, 0, none⟩), .int .i64 n] w fun e w' => e = .returned (.bool (decide (A.hasN n))) ∧ w = w' := by
  have c0 := h.c0.cell
  have hlt := h.c0.lt
  have hs := h.small.1
  unfold Ar.hasN
  by_cases h1 : 0 ≤ n
  · by_cases h2 : n < A.room
    · have c := (h.l1 n.toNat (by omega)).cell
      by_cases h3 : A.ro n.toNat = -1
      · have e : decide ((0 ≤ n ∧ n < (A.room : Int)) ∧ A.ro n.toNat ≠ -1) = false := by simp [h3]
        rw [e]
        rw [h3] at c
        clear e h h3
        go_enter Try.func129, Try.ntmps129
        go_wp2
        go_ret
        exact ⟨rfl, rfl⟩
      · have e : decide ((0 ≤ n ∧ n < (A.room : Int)) ∧ A.ro n.toNat ≠ -1) = true := by simp [h1, h2, h3]
        have h4 : (A.ro n.toNat != -1) = true := by simpa using h3
        rw [e]
        generalize A.ro n.toNat = x at *
        clear e h h3
        go_enter Try.func129, Try.ntmps129
        go_wp2
        go_ret
        exact ⟨rfl, rfl⟩
    · have e : decide ((0 ≤ n ∧ n < (A.room : Int)) ∧ A.ro n.toNat ≠ -1) = false := by simp [h2]
      have h3 : decide (n < (A.room : Int)) = false := by simpa using h2
      rw [e]; clear e h2 h
      go_enter Try.func129, Try.ntmps129
      go_wp2
      go_ret
      exact ⟨rfl, rfl⟩
  · have e : decide ((0 ≤ n ∧ n < (A.room : Int)) ∧ A.ro n.toNat ≠ -1) = false := by simp [h1]
    have h3 : decide (0 ≤ n) = false := by simpa using h1
    rw [e]; clear e h1 h
    go_enter Try.func129, Try.ntmps129
    go_wp2
    go_ret
    exact ⟨rfl, rfl⟩

set_option maxHeartbeats 1000000 in
theorem s_first (w : World) (b : Nat) (A : Ar) (r : Int) (h : ArAt w b A) :
    Calls Try.prog 139 #[.pointer (some ⟨b, 0, none⟩), .int .i64 r] w fun e w' => e = .returned (.int .i64 (if A.isRow r then A.rf r.toNat else -1)) ∧ w = w' := by
  have HI := Lib.hid (s_is w b A r h)
  have c1 := h.c1.cell
  have hlt := h.c1.lt
  by_cases hr : A.isRow r
  · rw [if_pos hr]
    have e : decide (A.isRow r) = true := by simp [hr]
    rw [e] at HI
    have h1 := hr.1
    have h2 := hr.2
    have c := (h.r0 r.toNat (by omega)).cell
    generalize A.rf r.toNat = x at *
    clear e h hr
    go_enter Try.func139, Try.ntmps139
    go_wp2_with ((go_at_call 127; refine HI.out.mono ?_; rintro e w1 ⟨rfl, rfl⟩))
    go_ret
    exact ⟨rfl, rfl⟩
  · rw [if_neg hr]
    have e : decide (A.isRow r) = false := by simp [hr]
    rw [e] at HI
    clear e h hr
    go_enter Try.func139, Try.ntmps139
    go_wp2_with ((go_at_call 127; refine HI.out.mono ?_; rintro e w1 ⟨rfl, rfl⟩))
    go_ret
    exact ⟨rfl, rfl⟩
end Od
end Go.Proofs.Ytilngakgofjmpaa

/- Slots: Push, walked. Conditions: an arena as New lays it, its numbers in their ranges. -/
namespace Go.Proofs.Ytilngakgofjmpaa
set_option linter.unusedVariables false
set_option linter.unusedSimpArgs false
namespace Od
open Go.RowKit

--<shared>
def Ar.push (A : Ar) (r : Nat) (v : Value) : Ar :=
  { A.least with
    th := upd A.th (A.fr 0).toNat v
    ro := upd A.ro (A.fr 0).toNat r
    ah := upd A.ah (A.fr 0).toNat (A.rl r)
    fa := if A.rl r = -1 then upd A.fa (A.fr 0).toNat (-1) else upd (upd A.fa (A.fr 0).toNat (-1)) (A.rl r).toNat (A.fr 0)
    rf := if A.rl r = -1 then upd A.rf r (A.fr 0) else A.rf
    rl := upd A.rl r (A.fr 0)
    rn := upd A.rn r (A.rn r + 1) }

--</shared>
set_option maxHeartbeats 1000000 in
theorem s_push_bad (w : World) (b : Nat) (A : Ar) (r : Int) (v0 v1 v2 v3 v4 : Int) (h : ArAt w b A) (hr : ¬ A.isRow r) :
    Calls Try.prog 78 #[.pointer (some ⟨b, 0, none⟩), .int .i64 r, .agg #[.int .i64 v0, .int .i64 v1, .int .u8 v2, .int .i64 v3, .int .i64 v4]] w fun e w' => e = .returned (.tuple #[.int .i64 0, .int .i64 1]) ∧ Only (fun _ => False) w w' := by
  have h0 := h.alloc (.cells #[.int .i64 v0, .int .i64 v1, .int .u8 v2, .int .i64 v3, .int .i64 v4] 54)
  have HI := Lib.hid (s_is _ b A r h0)
  have e : decide (A.isRow r) = false := by simp [hr]
  rw [e] at HI
  clear e h h0 hr
  go_enter Try.func78, Try.ntmps78
  go_wp2_with ((go_at_call 127; refine HI.out.mono ?_; rintro e w1 ⟨rfl, rfl⟩))
  go_returns
  exact ⟨rfl, by repeat' (first | (with_reducible exact Only.refl _ _) | (with_reducible assumption) | (refine Only.of_none ?_; with_reducible assumption) | (with_reducible refine Only.drewN ?_ _) | (with_reducible refine Only.drew ?_) | (with_reducible refine Only.alloc ?_ _) | (with_reducible refine Only.setCell ?_ ?_ _) | (with_reducible refine Only.then0 ?_ (by with_reducible assumption)) | (with_reducible refine Only.thenN ?_ (by with_reducible assumption) ?_) | (with_reducible refine Only.trans ?_ (by with_reducible assumption)) | (refine .inl ?_; first | rfl | (simp; done) | (simp [Ar.blk]; done)) | (refine .inr ?_; first | omega | (simp; done) | (simp; omega) | exact Only.size (by with_reducible assumption) | (refine Nat.le_trans (Only.size (by with_reducible assumption)) ?_; simp; done)))⟩

set_option maxHeartbeats 1000000 in
theorem s_push_full (w : World) (b : Nat) (A : Ar) (r : Int) (v0 v1 v2 v3 v4 : Int) (h : ArAt w b A) (hr : A.isRow r) (hn : A.nf = 0) :
    Calls Try.prog 78 #[.pointer (some ⟨b, 0, none⟩), .int .i64 r, .agg #[.int .i64 v0, .int .i64 v1, .int .u8 v2, .int .i64 v3, .int .i64 v4]] w fun e w' => e = .returned (.tuple #[.int .i64 0, .int .i64 40]) ∧ Only (fun _ => False) w w' := by
  have h0 := h.alloc (.cells #[.int .i64 v0, .int .i64 v1, .int .u8 v2, .int .i64 v3, .int .i64 v4] 54)
  have HI := Lib.hid (s_is _ b A r h0)
  have e : decide (A.isRow r) = true := by simp [hr]
  rw [e] at HI
  have c2 := h0.c2.cell
  have hlt := h0.c2.lt
  have hlt0 := h.c2.lt
  have hgf0 := h.gf_lt
  rw [hn] at c2
  clear e h h0 hr hn
  go_enter Try.func78, Try.ntmps78
  go_wp2_with ((go_at_call 127; refine HI.out.mono ?_; rintro e w1 ⟨rfl, rfl⟩))
  go_returns
  exact ⟨rfl, by repeat' (first | (with_reducible exact Only.refl _ _) | (with_reducible assumption) | (refine Only.of_none ?_; with_reducible assumption) | (with_reducible refine Only.drewN ?_ _) | (with_reducible refine Only.drew ?_) | (with_reducible refine Only.alloc ?_ _) | (with_reducible refine Only.setCell ?_ ?_ _) | (with_reducible refine Only.then0 ?_ (by with_reducible assumption)) | (with_reducible refine Only.thenN ?_ (by with_reducible assumption) ?_) | (with_reducible refine Only.trans ?_ (by with_reducible assumption)) | (refine .inl ?_; first | rfl | (simp; done) | (simp [Ar.blk]; done)) | (refine .inr ?_; first | omega | (simp; done) | (simp; omega) | exact Only.size (by with_reducible assumption) | (refine Nat.le_trans (Only.size (by with_reducible assumption)) ?_; simp; done)))⟩

set_option maxHeartbeats 4000000 in
set_option maxRecDepth 100000 in
theorem s_push (w : World) (b : Nat) (A : Ar) (r : Nat) (v0 v1 v2 v3 v4 : Int) (h : ArAt w b A) (hr : r < A.nr) (hn : 0 < A.nf) (n : Nat) (hfn : A.fr 0 = (n : Int)) (hnr : n < A.room) (hl : A.rl r = -1 ∨ (0 ≤ A.rl r ∧ A.rl r < A.room)) (hc : 0 ≤ A.rn r ∧ A.rn r ≤ 65536) :
    Calls Try.prog 78 #[.pointer (some ⟨b, 0, none⟩), .int .i64 r, .agg #[.int .i64 v0, .int .i64 v1, .int .u8 v2, .int .i64 v3, .int .i64 v4]] w fun e w' => e = .returned (.tuple #[.int .i64 n, .int .i64 0]) ∧ ArAt w' b (A.push r (.agg #[.int .i64 v0, .int .i64 v1, .int .u8 v2, .int .i64 v3, .int .i64 v4])) ∧ Only (A.blk b) w w' := by
  have hir : A.isRow r := ⟨by omega, by omega⟩
  have h0 := h.alloc (.cells #[.int .i64 v0, .int .i64 v1, .int .u8 v2, .int .i64 v3, .int .i64 v4] 54)
  have HI := Lib.hid (s_is _ b A r h0)
  have e : decide (A.isRow r) = true := by simp [hir]
  rw [e] at HI
  have hle := fun W (hW : ArAt W b A) => s_least W b A hW hn
  rw [hfn] at hle
  have HLE := Lib.hid hle
  clear hle
  have c2 := h0.c2.cell
  have c1 := h0.c1.cell
  have hlt := h0.c2.lt
  have hlt0 := h.c2.lt
  have hgf0 := h.gf_lt
  have hs := h.small
  have hnf : ((A.nf : Int) == 0) = false := by simp; omega
  have hr16 : r < 65536 := by omega
  have HAr := Lib.hid h
  clear e h h0 hir
  go_enter Try.func78, Try.ntmps78
  go_upto_region 5 with ((go_at_call 127; refine HI.out.mono ?_; rintro e w1 ⟨rfl, rfl⟩))
  go_cut [8, 9] (fun s8 s9 wc => s8 = .int .i64 n ∧ s9 = .pointer (some ⟨A.gr, r * 3, none⟩) ∧ ArAt wc b A.least ∧ Only (fun i => i = b ∨ i = A.gf) (w.alloc (.cells #[.int .i64 v0, .int .i64 v1, .int .u8 v2, .int .i64 v3, .int .i64 v4] 54)) wc)
  case first =>
    go_region_with (go_at_call 128; refine (HLE.out _ (by (repeat (first | (with_reducible refine ArAt.drew ?_) | (with_reducible refine ArAt.drewN ?_ _) | (with_reducible refine ArAt.alloc ?_ _))); exact HAr.out)).mono ?_; rintro e w1 ⟨rfl, hA1, o1⟩; have d1 := hA1.c1.cell; simp only [Ar.least] at d1; have HA1 := Lib.hid hA1; clear hA1)
    all_goals
      go_wp2_with fail
      go_meet
      exact ⟨rfl, rfl, (by (repeat (first | (with_reducible refine ArAt.drew ?_) | (with_reducible refine ArAt.drewN ?_ _) | (with_reducible refine ArAt.alloc ?_ _))); exact HA1.out), by repeat' (first | (with_reducible exact Only.refl _ _) | (with_reducible assumption) | (refine Only.of_none ?_; with_reducible assumption) | (with_reducible refine Only.drewN ?_ _) | (with_reducible refine Only.drew ?_) | (with_reducible refine Only.alloc ?_ _) | (with_reducible refine Only.setCell ?_ ?_ _) | (with_reducible refine Only.then0 ?_ (by with_reducible assumption)) | (with_reducible refine Only.thenN ?_ (by with_reducible assumption) ?_) | (with_reducible refine Only.trans ?_ (by with_reducible assumption)) | (refine .inl ?_; first | rfl | (simp; done) | (simp [Ar.blk]; done)) | (refine .inr ?_; first | omega | (simp; done) | (simp; omega) | exact Only.size (by with_reducible assumption) | (refine Nat.le_trans (Only.size (by with_reducible assumption)) ?_; simp; done)))⟩
  case rest =>
    obtain ⟨rfl, rfl, hA, o1⟩ := hcut
    obtain ⟨F, hF⟩ : ∃ F, A.least = { A with nf := A.nf - 1, fr := F } := ⟨_, rfl⟩
    obtain ⟨B, hB⟩ : ∃ B : Ar, B = { A with nf := A.nf - 1, fr := F } := ⟨_, rfl⟩
    have hgl : B.gl = A.gl := by rw [hB]
    have hgr : B.gr = A.gr := by rw [hB]
    have hroom : B.room = A.room := by rw [hB]
    have hnrB : B.nr = A.nr := by rw [hB]
    have hrlB : B.rl = A.rl := by rw [hB]
    have hrnB : B.rn = A.rn := by rw [hB]
    have hp : A.push r (.agg #[.int .i64 v0, .int .i64 v1, .int .u8 v2, .int .i64 v3, .int .i64 v4]) = { B with
        th := upd B.th n (.agg #[.int .i64 v0, .int .i64 v1, .int .u8 v2, .int .i64 v3, .int .i64 v4]), ro := upd B.ro n r, ah := upd B.ah n (A.rl r)
        fa := if A.rl r = -1 then upd B.fa n (-1) else upd (upd B.fa n (-1)) (A.rl r).toNat n
        rf := if A.rl r = -1 then upd B.rf r n else B.rf, rl := upd B.rl r n, rn := upd B.rn r (A.rn r + 1) } := by
      unfold Ar.push; rw [hF, hB, hfn]; simp only [Int.toNat_natCast]
    rw [hF, ← hB] at hA
    have o1' : Only (A.blk b) w wc := ((Only.refl _ w).alloc _).trans (o1.mono fun _ _ h => h.elim .inl (fun h => .inr (.inr (.inr h))))
    have bx0 := (((Cell.new (w := w) (cs := #[.int .i64 v0, .int .i64 v1, .int .u8 v2, .int .i64 v3, .int .i64 v4]) (t := 54) (o := 0) rfl)).only o1 (by show ¬ (w.heap.size = b ∨ w.heap.size = A.gf); omega)).cell
    have bx1 := (((Cell.new (w := w) (cs := #[.int .i64 v0, .int .i64 v1, .int .u8 v2, .int .i64 v3, .int .i64 v4]) (t := 54) (o := 1) rfl)).only o1 (by show ¬ (w.heap.size = b ∨ w.heap.size = A.gf); omega)).cell
    have bx2 := (((Cell.new (w := w) (cs := #[.int .i64 v0, .int .i64 v1, .int .u8 v2, .int .i64 v3, .int .i64 v4]) (t := 54) (o := 2) rfl)).only o1 (by show ¬ (w.heap.size = b ∨ w.heap.size = A.gf); omega)).cell
    have bx3 := (((Cell.new (w := w) (cs := #[.int .i64 v0, .int .i64 v1, .int .u8 v2, .int .i64 v3, .int .i64 v4]) (t := 54) (o := 3) rfl)).only o1 (by show ¬ (w.heap.size = b ∨ w.heap.size = A.gf); omega)).cell
    have bx4 := (((Cell.new (w := w) (cs := #[.int .i64 v0, .int .i64 v1, .int .u8 v2, .int .i64 v3, .int .i64 v4]) (t := 54) (o := 4) rfl)).only o1 (by show ¬ (w.heap.size = b ∨ w.heap.size = A.gf); omega)).cell
    have zbx := cell_lt bx0
    clear o1
    have c0 := hA.c0.cell
    have d1 := hA.c1.cell
    rw [hgl, hroom] at c0
    rw [hgr, hnrB] at d1
    have hbw := hA.c0.lt
    have hglw := hA.lr.1
    have hgrw := hA.lr.2
    rw [hgl] at hglw
    rw [hgr] at hgrw
    have hsz : (B.th n).cells.size = 5 := hA.tc n (by omega)
    obtain ⟨w0, t00⟩ : ∃ u, Cell wc B.gl (n * 8 + 0) u := ⟨_, hA.l0 n (by omega) 0 _ (Array.getElem?_eq_getElem (by omega))⟩
    obtain ⟨w1, t01⟩ : ∃ u, Cell wc B.gl (n * 8 + 1) u := ⟨_, hA.l0 n (by omega) 1 _ (Array.getElem?_eq_getElem (by omega))⟩
    obtain ⟨w2, t02⟩ : ∃ u, Cell wc B.gl (n * 8 + 2) u := ⟨_, hA.l0 n (by omega) 2 _ (Array.getElem?_eq_getElem (by omega))⟩
    obtain ⟨w3, t03⟩ : ∃ u, Cell wc B.gl (n * 8 + 3) u := ⟨_, hA.l0 n (by omega) 3 _ (Array.getElem?_eq_getElem (by omega))⟩
    obtain ⟨w4, t04⟩ : ∃ u, Cell wc B.gl (n * 8 + 4) u := ⟨_, hA.l0 n (by omega) 4 _ (Array.getElem?_eq_getElem (by omega))⟩
    have t1 := hA.l1 n (by omega)
    have t2 := hA.l2 n (by omega)
    have t3 := hA.l3 n (by omega)
    have q0 := hA.r0 r (by omega)
    have q1 := hA.r1 r (by omega)
    have q2 := hA.r2 r (by omega)
    rw [hgl] at t00 t01 t02 t03 t04 t1 t2 t3
    rw [Nat.add_zero] at t00
    clear hsz
    rw [hgr] at q0 q1 q2
    rw [hrlB] at q1
    rw [hrnB] at q2
    obtain ⟨t00, u00⟩ := t00
    obtain ⟨t01, u01⟩ := t01
    obtain ⟨t02, u02⟩ := t02
    obtain ⟨t03, u03⟩ := t03
    obtain ⟨t04, u04⟩ := t04
    obtain ⟨t1, u1⟩ := t1
    obtain ⟨t2, u2⟩ := t2
    obtain ⟨t3, u3⟩ := t3
    obtain ⟨q0, p0⟩ := q0
    obtain ⟨q1, p1⟩ := q1
    obtain ⟨q2, p2⟩ := q2
    have n1 := hA.n1
    have n2 := hA.n2
    have n4 := hA.n4
    rw [hgl] at n1 n4
    rw [hgr] at n2 n4
    have n1' := Ne.symm n1
    have n2' := Ne.symm n2
    have n4' := Ne.symm n4
    have HP := Lib.hid hp
    by_cases hl1 : A.rl r = -1
    · have HW := Lib.hid (fun W (hW : ArAt W b B) => (((((((hW.set_th (i := n) (by omega) (.int .i64 v0) (.int .i64 v1) (.int .u8 v2) (.int .i64 v3) (.int .i64 v4)).set_ro (i := n) (by simp only; omega) r).set_ah (i := n) (by simp only; omega) (A.rl r)).set_fa (i := n) (by simp only; omega) (-1)).set_rf (i := r) (by simp only; omega) n).set_rl (i := r) (by simp only; omega) n).set_rn (i := r) (by simp only; omega) (A.rn r + 1)))
      simp only [hgl, hgr, hl1, put5] at HW
      rw [hl1] at q1
      simp only [hl1, if_true, hgl, hgr] at HP
      have HBAr := Lib.hid hA
      clear hA hp hF hB hgl hgr hroom hnrB hrlB hrnB HLE HI HAr hl hl1 c1 c2
      generalize A.rn r = rn at *
      go_wp2
      go_region
      go_wp2
      go_returns
      refine ⟨rfl, ?_, by repeat' (first | (with_reducible exact Only.refl _ _) | (with_reducible assumption) | (refine Only.of_none ?_; with_reducible assumption) | (with_reducible refine Only.drewN ?_ _) | (with_reducible refine Only.drew ?_) | (with_reducible refine Only.alloc ?_ _) | (with_reducible refine Only.setCell ?_ ?_ _) | (with_reducible refine Only.then0 ?_ (by with_reducible assumption)) | (with_reducible refine Only.thenN ?_ (by with_reducible assumption) ?_) | (with_reducible refine Only.trans ?_ (by with_reducible assumption)) | (refine .inl ?_; first | rfl | (simp; done) | (simp [Ar.blk]; done)) | (refine .inr ?_; first | omega | (simp; done) | (simp; omega) | exact Only.size (by with_reducible assumption) | (refine Nat.le_trans (Only.size (by with_reducible assumption)) ?_; simp; done)))⟩
      rw [HP.out]
      (repeat (first | (with_reducible refine ArAt.drew ?_) | (with_reducible refine ArAt.drewN ?_ _) | (with_reducible refine ArAt.alloc ?_ _)));
      exact HW.out _ (by (repeat (first | (with_reducible refine ArAt.drew ?_) | (with_reducible refine ArAt.drewN ?_ _) | (with_reducible refine ArAt.alloc ?_ _))); exact HBAr.out)
    · obtain ⟨l, hl2⟩ : ∃ l : Nat, A.rl r = (l : Int) := ⟨(A.rl r).toNat, by omega⟩
      have hlr : l < A.room := by omega
      have hl3 : ((l : Int) == -1) = false := by simp
      have HW := Lib.hid (fun W (hW : ArAt W b B) => (((((((hW.set_th (i := n) (by omega) (.int .i64 v0) (.int .i64 v1) (.int .u8 v2) (.int .i64 v3) (.int .i64 v4)).set_ro (i := n) (by simp only; omega) r).set_ah (i := n) (by simp only; omega) (A.rl r)).set_fa (i := n) (by simp only; omega) (-1)).set_fa (i := l) (by simp only; omega) n).set_rl (i := r) (by simp only; omega) n).set_rn (i := r) (by simp only; omega) (A.rn r + 1)))
      simp only [hgl, hgr, hl2, put5] at HW
      rw [hl2] at q1 hl1
      simp only [hl2, hl1, if_false, Int.toNat_natCast, hgl, hgr] at HP
      have t4 := hA.l3 l (by omega)
      rw [hgl] at t4
      obtain ⟨t4, u4⟩ := t4
      have HBAr := Lib.hid hA
      clear hA hp hF hB hgl hgr hroom hnrB hrlB hrnB HLE HI HAr hl hl2 c1 c2
      generalize A.rn r = rn at *
      by_cases hln : l = n
      · subst hln
        go_wp2
        go_region
        go_wp2
        go_region
        go_wp2
        go_returns
        refine ⟨rfl, ?_, by repeat' (first | (with_reducible exact Only.refl _ _) | (with_reducible assumption) | (refine Only.of_none ?_; with_reducible assumption) | (with_reducible refine Only.drewN ?_ _) | (with_reducible refine Only.drew ?_) | (with_reducible refine Only.alloc ?_ _) | (with_reducible refine Only.setCell ?_ ?_ _) | (with_reducible refine Only.then0 ?_ (by with_reducible assumption)) | (with_reducible refine Only.thenN ?_ (by with_reducible assumption) ?_) | (with_reducible refine Only.trans ?_ (by with_reducible assumption)) | (refine .inl ?_; first | rfl | (simp; done) | (simp [Ar.blk]; done)) | (refine .inr ?_; first | omega | (simp; done) | (simp; omega) | exact Only.size (by with_reducible assumption) | (refine Nat.le_trans (Only.size (by with_reducible assumption)) ?_; simp; done)))⟩
        rw [HP.out]
        (repeat (first | (with_reducible refine ArAt.drew ?_) | (with_reducible refine ArAt.drewN ?_ _) | (with_reducible refine ArAt.alloc ?_ _)));
        exact HW.out _ (by (repeat (first | (with_reducible refine ArAt.drew ?_) | (with_reducible refine ArAt.drewN ?_ _) | (with_reducible refine ArAt.alloc ?_ _))); exact HBAr.out)
      · go_wp2
        go_region
        go_wp2
        go_region
        go_wp2
        go_returns
        refine ⟨rfl, ?_, by repeat' (first | (with_reducible exact Only.refl _ _) | (with_reducible assumption) | (refine Only.of_none ?_; with_reducible assumption) | (with_reducible refine Only.drewN ?_ _) | (with_reducible refine Only.drew ?_) | (with_reducible refine Only.alloc ?_ _) | (with_reducible refine Only.setCell ?_ ?_ _) | (with_reducible refine Only.then0 ?_ (by with_reducible assumption)) | (with_reducible refine Only.thenN ?_ (by with_reducible assumption) ?_) | (with_reducible refine Only.trans ?_ (by with_reducible assumption)) | (refine .inl ?_; first | rfl | (simp; done) | (simp [Ar.blk]; done)) | (refine .inr ?_; first | omega | (simp; done) | (simp; omega) | exact Only.size (by with_reducible assumption) | (refine Nat.le_trans (Only.size (by with_reducible assumption)) ?_; simp; done)))⟩
        rw [HP.out]
        (repeat (first | (with_reducible refine ArAt.drew ?_) | (with_reducible refine ArAt.drewN ?_ _) | (with_reducible refine ArAt.alloc ?_ _)));
        exact HW.out _ (by (repeat (first | (with_reducible refine ArAt.drew ?_) | (with_reducible refine ArAt.drewN ?_ _) | (with_reducible refine ArAt.alloc ?_ _))); exact HBAr.out)
end Od
end Go.Proofs.Ytilngakgofjmpaa

/- Slots: Take, walked. Conditions: an arena as New lays it, its numbers in their ranges. -/
namespace Go.Proofs.Ytilngakgofjmpaa
set_option linter.unusedVariables false
set_option linter.unusedSimpArgs false
namespace Od
open Go.RowKit

--<shared>
/-- The links around a number are laid together. -/
def Ar.cut (A : Ar) (n r : Nat) : Ar :=
  { A with
    rf := if A.ah n = -1 then upd A.rf r (A.fa n) else A.rf
    fa := if A.ah n = -1 then A.fa else upd A.fa (A.ah n).toNat (A.fa n)
    rl := if A.fa n = -1 then upd A.rl r (A.ah n) else A.rl
    ah := if A.fa n = -1 then A.ah else upd A.ah (A.fa n).toNat (A.ah n)
    rn := upd A.rn r (A.rn r - 1) }
/-- A link is laid empty. -/
def Ar.wipe (A : Ar) (n : Nat) (z : Value) : Ar := { A with th := upd A.th n z, ro := upd A.ro n (-1), ah := upd A.ah n 0, fa := upd A.fa n 0 }
def Ar.take (A : Ar) (n : Nat) (z : Value) : Ar := ((A.cut n (A.ro n).toNat).wipe n z).give n

--</shared>
set_option maxHeartbeats 1000000 in
theorem s_take_no (w : World) (b : Nat) (A : Ar) (n : Int) (h : ArAt w b A) (hr : ¬ A.hasN n) :
    Calls Try.prog 81 #[.pointer (some ⟨b, 0, none⟩), .int .i64 n] w fun e w' => e = .returned (.tuple #[.agg #[.int .i64 0, .int .i64 0, .int .u8 0, .int .i64 0, .int .i64 0], .bool false]) ∧ Only (fun _ => False) w w' := by
  have h0 := h.alloc (.cells #[.int .i64 0, .int .i64 0, .int .u8 0, .int .i64 0, .int .i64 0] 54)
  have HI := Lib.hid (s_has _ b A n h0)
  have e : decide (A.hasN n) = false := by simp [hr]
  rw [e] at HI
  clear e h h0 hr
  go_enter Try.func81, Try.ntmps81
  go_wp2_with ((go_at_call 129; refine HI.out.mono ?_; rintro e w1 ⟨rfl, rfl⟩))
  go_returns
  exact ⟨rfl, by repeat' (first | (with_reducible exact Only.refl _ _) | (with_reducible assumption) | (refine Only.of_none ?_; with_reducible assumption) | (with_reducible refine Only.drewN ?_ _) | (with_reducible refine Only.drew ?_) | (with_reducible refine Only.alloc ?_ _) | (with_reducible refine Only.setCell ?_ ?_ _) | (with_reducible refine Only.then0 ?_ (by with_reducible assumption)) | (with_reducible refine Only.thenN ?_ (by with_reducible assumption) ?_) | (with_reducible refine Only.trans ?_ (by with_reducible assumption)) | (refine .inl ?_; first | rfl | (simp; done) | (simp [Ar.blk]; done)) | (refine .inr ?_; first | omega | (simp; done) | (simp; omega) | exact Only.size (by with_reducible assumption) | (refine Nat.le_trans (Only.size (by with_reducible assumption)) ?_; simp; done)))⟩

set_option maxHeartbeats 4000000 in
set_option maxRecDepth 100000 in
theorem s_take_nn (w : World) (b : Nat) (A : Ar) (n r : Nat) (v0 v1 v2 v3 v4 : Int) (h : ArAt w b A) (hn : n < A.room) (hro : A.ro n = (r : Int)) (hr : r < A.nr) (hv : A.th n = .agg #[.int .i64 v0, .int .i64 v1, .int .u8 v2, .int .i64 v3, .int .i64 v4]) (hc : 1 ≤ A.rn r ∧ A.rn r ≤ 65536) (hnf : A.nf < A.room) (ha : A.ah n = -1) (hf : A.fa n = -1) :
    Calls Try.prog 81 #[.pointer (some ⟨b, 0, none⟩), .int .i64 n] w fun e w' => e = .returned (.tuple #[.agg #[.int .i64 v0, .int .i64 v1, .int .u8 v2, .int .i64 v3, .int .i64 v4], .bool true]) ∧ ArAt w' b (A.take n (.agg #[.int .i64 0, .int .i64 0, .int .u8 0, .int .i64 0, .int .i64 0])) ∧ Only (A.blk b) w w' := by
  have hir : A.hasN n := ⟨⟨by omega, by omega⟩, by rw [Int.toNat_natCast, hro]; omega⟩
  have h0 := h.alloc (.cells #[.int .i64 0, .int .i64 0, .int .u8 0, .int .i64 0, .int .i64 0] 54)
  have HI := Lib.hid (s_has _ b A n h0)
  have e : decide (A.hasN n) = true := by simp [hir]
  rw [e] at HI
  have hs := h.small
  have hp : A.take n (.agg #[.int .i64 0, .int .i64 0, .int .u8 0, .int .i64 0, .int .i64 0]) = ((A.cut n r).wipe n (.agg #[.int .i64 0, .int .i64 0, .int .u8 0, .int .i64 0, .int .i64 0])).give n := by unfold Ar.take; rw [hro]; rfl
  obtain ⟨B, hB⟩ : ∃ B : Ar, B = (A.cut n r).wipe n (.agg #[.int .i64 0, .int .i64 0, .int .u8 0, .int .i64 0, .int .i64 0]) := ⟨_, rfl⟩
  rw [← hB] at hp
  have hBnf : B.nf < B.room := by rw [hB]; exact hnf
  have hBgf : B.gf = A.gf := by rw [hB]; rfl
  have HG := Lib.hid (fun W (hW : ArAt W b B) => s_give W b B n hW hBnf)
  have HW := Lib.hid (fun W (hW : ArAt W b A) => (((((((hW.set_rf (i := r) (by omega) (A.fa n)).set_rl (i := r) (by simp only; omega) (A.ah n)).set_rn (i := r) (by simp only; omega) (A.rn r - 1)).set_th (i := n) (by simp only; omega) (.int .i64 0) (.int .i64 0) (.int .u8 0) (.int .i64 0) (.int .i64 0)).set_ro (i := n) (by simp only; omega) (-1)).set_ah (i := n) (by simp only; omega) 0).set_fa (i := n) (by simp only; omega) 0))
  have hB' : B = { A with rf := upd A.rf r (A.fa n), fa := upd (A.fa) n 0, rl := upd A.rl r (A.ah n), ah := upd (A.ah) n 0, rn := upd A.rn r (A.rn r - 1), th := upd A.th n (.agg #[.int .i64 0, .int .i64 0, .int .u8 0, .int .i64 0, .int .i64 0]), ro := upd A.ro n (-1) } := by
    rw [hB]; unfold Ar.cut Ar.wipe; simp [ha, hf]
  simp only [ha, hf, put5] at HW hB'
  have HBB := Lib.hid hB'
  have c0 := h0.c0.cell
  have c1 := h0.c1.cell
  have c2 := h0.c2.cell
  have hbw := h0.c0.lt
  have hbw0 := h.c0.lt
  have hglw := h0.lr.1
  have hglw0 := h.lr.1
  have hgrw := h0.lr.2
  have hgrw0 := h.lr.2
  obtain ⟨t00, u00⟩ := h0.l0 n (by omega) 0 (.int .i64 v0) (by rw [hv]; rfl)
  obtain ⟨t01, u01⟩ := h0.l0 n (by omega) 1 (.int .i64 v1) (by rw [hv]; rfl)
  obtain ⟨t02, u02⟩ := h0.l0 n (by omega) 2 (.int .u8 v2) (by rw [hv]; rfl)
  obtain ⟨t03, u03⟩ := h0.l0 n (by omega) 3 (.int .i64 v3) (by rw [hv]; rfl)
  obtain ⟨t04, u04⟩ := h0.l0 n (by omega) 4 (.int .i64 v4) (by rw [hv]; rfl)
  rw [Nat.add_zero] at t00 u00
  obtain ⟨t1, u1⟩ := h0.l1 n (by omega)
  obtain ⟨t2, u2⟩ := h0.l2 n (by omega)
  obtain ⟨t3, u3⟩ := h0.l3 n (by omega)
  obtain ⟨q0, p0⟩ := h0.r0 r (by omega)
  obtain ⟨q1, p1⟩ := h0.r1 r (by omega)
  obtain ⟨q2, p2⟩ := h0.r2 r (by omega)
  rw [hro] at t1
  rw [ha] at t2
  rw [hf] at t3
  have n1 := h.n1
  have n2 := h.n2
  have n4 := h.n4
  have n1' := Ne.symm n1
  have n2' := Ne.symm n2
  have n4' := Ne.symm n4
  have HP := Lib.hid hp
  have HGF := Lib.hid hBgf
  have HAr := Lib.hid h
  clear e h h0 hir hB hB' hp hBgf hBnf hro ha hf hv
  generalize A.rn r = rn at *
  go_enter Try.func81, Try.ntmps81
  go_wp2_with ((go_at_call 129; refine HI.out.mono ?_; rintro e w1 ⟨rfl, rfl⟩))
  go_quiet (fail)
  go_wp2_with (fail)
  refine (HG.out _ (by rw [HBB.out]; (repeat (first | (with_reducible refine ArAt.drew ?_) | (with_reducible refine ArAt.drewN ?_ _) | (with_reducible refine ArAt.alloc ?_ _))); exact HW.out _ (by (repeat (first | (with_reducible refine ArAt.drew ?_) | (with_reducible refine ArAt.drewN ?_ _) | (with_reducible refine ArAt.alloc ?_ _))); exact HAr.out))).mono ?_
  rintro e w2 ⟨rfl, hA2, o2⟩
  rw [HGF.out] at o2
  have o3 : Only (A.blk b) ((w.alloc (.cells #[.int .i64 0, .int .i64 0, .int .u8 0, .int .i64 0, .int .i64 0] 54)).alloc (.cells #[.int .i64 v0, .int .i64 v1, .int .u8 v2, .int .i64 v3, .int .i64 v4, .int .i64 r, .int .i64 (-1), .int .i64 (-1)] 201)) w2 := Only.trans' (by repeat' (first | (with_reducible exact Only.refl _ _) | (with_reducible assumption) | (refine Only.of_none ?_; with_reducible assumption) | (with_reducible refine Only.drewN ?_ _) | (with_reducible refine Only.drew ?_) | (with_reducible refine Only.alloc ?_ _) | (with_reducible refine Only.setCell ?_ ?_ _) | (with_reducible refine Only.then0 ?_ (by with_reducible assumption)) | (with_reducible refine Only.thenN ?_ (by with_reducible assumption) ?_) | (with_reducible refine Only.trans ?_ (by with_reducible assumption)) | (refine .inl ?_; first | rfl | (simp; done) | (simp [Ar.blk]; done)) | (refine .inr ?_; first | omega | (simp; done) | (simp; omega) | exact Only.size (by with_reducible assumption) | (refine Nat.le_trans (Only.size (by with_reducible assumption)) ?_; simp; done)))) o2 (fun i _ h => h.elim .inl (fun h => .inr (.inr (.inr h))))
  have hgfw := HAr.out.gf_lt
  have d00 := o3.cell (b := w.heap.size + 1) (o := 0) (v := .int .i64 v0) (by simp [go_sem]) (by unfold Ar.blk; omega)
  have d01 := o3.cell (b := w.heap.size + 1) (o := 1) (v := .int .i64 v1) (by simp [go_sem]) (by unfold Ar.blk; omega)
  have d02 := o3.cell (b := w.heap.size + 1) (o := 2) (v := .int .u8 v2) (by simp [go_sem]) (by unfold Ar.blk; omega)
  have d03 := o3.cell (b := w.heap.size + 1) (o := 3) (v := .int .i64 v3) (by simp [go_sem]) (by unfold Ar.blk; omega)
  have d04 := o3.cell (b := w.heap.size + 1) (o := 4) (v := .int .i64 v4) (by simp [go_sem]) (by unfold Ar.blk; omega)
  have zb0 := ((Cell.new (w := w) (cs := #[.int .i64 0, .int .i64 0, .int .u8 0, .int .i64 0, .int .i64 0]) (t := 54) (o := 0) rfl).alloc _).only o3 (by show ¬ A.blk b w.heap.size; unfold Ar.blk; omega)
  have zc0 := zb0.cell
  have zf0 := zb0.free
  have zb1 := ((Cell.new (w := w) (cs := #[.int .i64 0, .int .i64 0, .int .u8 0, .int .i64 0, .int .i64 0]) (t := 54) (o := 1) rfl).alloc _).only o3 (by show ¬ A.blk b w.heap.size; unfold Ar.blk; omega)
  have zc1 := zb1.cell
  have zf1 := zb1.free
  have zb2 := ((Cell.new (w := w) (cs := #[.int .i64 0, .int .i64 0, .int .u8 0, .int .i64 0, .int .i64 0]) (t := 54) (o := 2) rfl).alloc _).only o3 (by show ¬ A.blk b w.heap.size; unfold Ar.blk; omega)
  have zc2 := zb2.cell
  have zf2 := zb2.free
  have zb3 := ((Cell.new (w := w) (cs := #[.int .i64 0, .int .i64 0, .int .u8 0, .int .i64 0, .int .i64 0]) (t := 54) (o := 3) rfl).alloc _).only o3 (by show ¬ A.blk b w.heap.size; unfold Ar.blk; omega)
  have zc3 := zb3.cell
  have zf3 := zb3.free
  have zb4 := ((Cell.new (w := w) (cs := #[.int .i64 0, .int .i64 0, .int .u8 0, .int .i64 0, .int .i64 0]) (t := 54) (o := 4) rfl).alloc _).only o3 (by show ¬ A.blk b w.heap.size; unfold Ar.blk; omega)
  have zc4 := zb4.cell
  have zf4 := zb4.free
  have rr0 : (((((w2.setCell ⟨w.heap.size, 0, none⟩ (.int .i64 v0)).setCell ⟨w.heap.size, 1, none⟩ (.int .i64 v1)).setCell ⟨w.heap.size, 2, none⟩ (.int .u8 v2)).setCell ⟨w.heap.size, 3, none⟩ (.int .i64 v3)).setCell ⟨w.heap.size, 4, none⟩ (.int .i64 v4)).cell? ⟨w.heap.size, 0, none⟩ = some (.int .i64 v0) := (show Cell (((((w2.setCell ⟨w.heap.size, 0, none⟩ (.int .i64 v0)).setCell ⟨w.heap.size, 1, none⟩ (.int .i64 v1)).setCell ⟨w.heap.size, 2, none⟩ (.int .u8 v2)).setCell ⟨w.heap.size, 3, none⟩ (.int .i64 v3)).setCell ⟨w.heap.size, 4, none⟩ (.int .i64 v4)) w.heap.size 0 (.int .i64 v0) from (((((zb0.set _).far (off_ne (by decide)) _).far (off_ne (by decide)) _).far (off_ne (by decide)) _).far (off_ne (by decide)) _)).cell
  have rr1 : (((((w2.setCell ⟨w.heap.size, 0, none⟩ (.int .i64 v0)).setCell ⟨w.heap.size, 1, none⟩ (.int .i64 v1)).setCell ⟨w.heap.size, 2, none⟩ (.int .u8 v2)).setCell ⟨w.heap.size, 3, none⟩ (.int .i64 v3)).setCell ⟨w.heap.size, 4, none⟩ (.int .i64 v4)).cell? ⟨w.heap.size, 1, none⟩ = some (.int .i64 v1) := (show Cell (((((w2.setCell ⟨w.heap.size, 0, none⟩ (.int .i64 v0)).setCell ⟨w.heap.size, 1, none⟩ (.int .i64 v1)).setCell ⟨w.heap.size, 2, none⟩ (.int .u8 v2)).setCell ⟨w.heap.size, 3, none⟩ (.int .i64 v3)).setCell ⟨w.heap.size, 4, none⟩ (.int .i64 v4)) w.heap.size 1 (.int .i64 v1) from (((((zb1.far (off_ne (by decide)) _).set _).far (off_ne (by decide)) _).far (off_ne (by decide)) _).far (off_ne (by decide)) _)).cell
  have rr2 : (((((w2.setCell ⟨w.heap.size, 0, none⟩ (.int .i64 v0)).setCell ⟨w.heap.size, 1, none⟩ (.int .i64 v1)).setCell ⟨w.heap.size, 2, none⟩ (.int .u8 v2)).setCell ⟨w.heap.size, 3, none⟩ (.int .i64 v3)).setCell ⟨w.heap.size, 4, none⟩ (.int .i64 v4)).cell? ⟨w.heap.size, 2, none⟩ = some (.int .u8 v2) := (show Cell (((((w2.setCell ⟨w.heap.size, 0, none⟩ (.int .i64 v0)).setCell ⟨w.heap.size, 1, none⟩ (.int .i64 v1)).setCell ⟨w.heap.size, 2, none⟩ (.int .u8 v2)).setCell ⟨w.heap.size, 3, none⟩ (.int .i64 v3)).setCell ⟨w.heap.size, 4, none⟩ (.int .i64 v4)) w.heap.size 2 (.int .u8 v2) from (((((zb2.far (off_ne (by decide)) _).far (off_ne (by decide)) _).set _).far (off_ne (by decide)) _).far (off_ne (by decide)) _)).cell
  have rr3 : (((((w2.setCell ⟨w.heap.size, 0, none⟩ (.int .i64 v0)).setCell ⟨w.heap.size, 1, none⟩ (.int .i64 v1)).setCell ⟨w.heap.size, 2, none⟩ (.int .u8 v2)).setCell ⟨w.heap.size, 3, none⟩ (.int .i64 v3)).setCell ⟨w.heap.size, 4, none⟩ (.int .i64 v4)).cell? ⟨w.heap.size, 3, none⟩ = some (.int .i64 v3) := (show Cell (((((w2.setCell ⟨w.heap.size, 0, none⟩ (.int .i64 v0)).setCell ⟨w.heap.size, 1, none⟩ (.int .i64 v1)).setCell ⟨w.heap.size, 2, none⟩ (.int .u8 v2)).setCell ⟨w.heap.size, 3, none⟩ (.int .i64 v3)).setCell ⟨w.heap.size, 4, none⟩ (.int .i64 v4)) w.heap.size 3 (.int .i64 v3) from (((((zb3.far (off_ne (by decide)) _).far (off_ne (by decide)) _).far (off_ne (by decide)) _).set _).far (off_ne (by decide)) _)).cell
  have rr4 : (((((w2.setCell ⟨w.heap.size, 0, none⟩ (.int .i64 v0)).setCell ⟨w.heap.size, 1, none⟩ (.int .i64 v1)).setCell ⟨w.heap.size, 2, none⟩ (.int .u8 v2)).setCell ⟨w.heap.size, 3, none⟩ (.int .i64 v3)).setCell ⟨w.heap.size, 4, none⟩ (.int .i64 v4)).cell? ⟨w.heap.size, 4, none⟩ = some (.int .i64 v4) := (show Cell (((((w2.setCell ⟨w.heap.size, 0, none⟩ (.int .i64 v0)).setCell ⟨w.heap.size, 1, none⟩ (.int .i64 v1)).setCell ⟨w.heap.size, 2, none⟩ (.int .u8 v2)).setCell ⟨w.heap.size, 3, none⟩ (.int .i64 v3)).setCell ⟨w.heap.size, 4, none⟩ (.int .i64 v4)) w.heap.size 4 (.int .i64 v4) from (((((zb4.far (off_ne (by decide)) _).far (off_ne (by decide)) _).far (off_ne (by decide)) _).far (off_ne (by decide)) _).set _)).cell
  have OZ := Lib.hid (show Only (· = w.heap.size) w2 (((((w2.setCell ⟨w.heap.size, 0, none⟩ (.int .i64 v0)).setCell ⟨w.heap.size, 1, none⟩ (.int .i64 v1)).setCell ⟨w.heap.size, 2, none⟩ (.int .u8 v2)).setCell ⟨w.heap.size, 3, none⟩ (.int .i64 v3)).setCell ⟨w.heap.size, 4, none⟩ (.int .i64 v4)) from (((((Only.refl (· = w.heap.size) w2).setCell (.inl rfl) _).setCell (.inl rfl) _).setCell (.inl rfl) _).setCell (.inl rfl) _).setCell (.inl rfl) _)
  have HA2 := Lib.hid hA2
  have O3 := Lib.hid o3
  clear hA2 o2 zb0 zb1 zb2 zb3 zb4 o3
  go_wp2
  refine bodyPost_ret (by simp [results, Try.results81, go_sem, rr0, rr1, rr2, rr3, rr4]; try rfl) rfl ?_
  refine ⟨rfl, by rw [HP.out]; exact ArAt.only HA2.out OZ.out (by show ¬ (b = w.heap.size); omega) (by rw [show (B.give n).gl = A.gl by rw [HBB.out]; rfl]; show ¬ (A.gl = w.heap.size); omega) (by rw [show (B.give n).gr = A.gr by rw [HBB.out]; rfl]; show ¬ (A.gr = w.heap.size); omega) (by rw [show (B.give n).gf = A.gf by rw [HBB.out]; rfl]; show ¬ (A.gf = w.heap.size); omega), ?_⟩
  exact ((((Only.refl _ w).alloc _).alloc _).trans O3.out).trans' OZ.out (fun i hi e => by omega)

set_option maxHeartbeats 4000000 in
set_option maxRecDepth 100000 in
theorem s_take_ns (w : World) (b : Nat) (A : Ar) (n r : Nat) (v0 v1 v2 v3 v4 : Int) (h : ArAt w b A) (hn : n < A.room) (hro : A.ro n = (r : Int)) (hr : r < A.nr) (hv : A.th n = .agg #[.int .i64 v0, .int .i64 v1, .int .u8 v2, .int .i64 v3, .int .i64 v4]) (hc : 1 ≤ A.rn r ∧ A.rn r ≤ 65536) (hnf : A.nf < A.room) (ha : A.ah n = -1) (f : Nat) (hf : A.fa n = (f : Int)) (hfr : f < A.room) (hfn : f ≠ n) :
    Calls Try.prog 81 #[.pointer (some ⟨b, 0, none⟩), .int .i64 n] w fun e w' => e = .returned (.tuple #[.agg #[.int .i64 v0, .int .i64 v1, .int .u8 v2, .int .i64 v3, .int .i64 v4], .bool true]) ∧ ArAt w' b (A.take n (.agg #[.int .i64 0, .int .i64 0, .int .u8 0, .int .i64 0, .int .i64 0])) ∧ Only (A.blk b) w w' := by
  have hir : A.hasN n := ⟨⟨by omega, by omega⟩, by rw [Int.toNat_natCast, hro]; omega⟩
  have h0 := h.alloc (.cells #[.int .i64 0, .int .i64 0, .int .u8 0, .int .i64 0, .int .i64 0] 54)
  have HI := Lib.hid (s_has _ b A n h0)
  have e : decide (A.hasN n) = true := by simp [hir]
  rw [e] at HI
  have hs := h.small
  have hp : A.take n (.agg #[.int .i64 0, .int .i64 0, .int .u8 0, .int .i64 0, .int .i64 0]) = ((A.cut n r).wipe n (.agg #[.int .i64 0, .int .i64 0, .int .u8 0, .int .i64 0, .int .i64 0])).give n := by unfold Ar.take; rw [hro]; rfl
  obtain ⟨B, hB⟩ : ∃ B : Ar, B = (A.cut n r).wipe n (.agg #[.int .i64 0, .int .i64 0, .int .u8 0, .int .i64 0, .int .i64 0]) := ⟨_, rfl⟩
  rw [← hB] at hp
  have hBnf : B.nf < B.room := by rw [hB]; exact hnf
  have hBgf : B.gf = A.gf := by rw [hB]; rfl
  have HG := Lib.hid (fun W (hW : ArAt W b B) => s_give W b B n hW hBnf)
  have HW := Lib.hid (fun W (hW : ArAt W b A) => (((((((hW.set_rf (i := r) (by omega) (A.fa n)).set_ah (i := f) (by simp only; omega) (A.ah n)).set_rn (i := r) (by simp only; omega) (A.rn r - 1)).set_th (i := n) (by simp only; omega) (.int .i64 0) (.int .i64 0) (.int .u8 0) (.int .i64 0) (.int .i64 0)).set_ro (i := n) (by simp only; omega) (-1)).set_ah (i := n) (by simp only; omega) 0).set_fa (i := n) (by simp only; omega) 0))
  have hB' : B = { A with rf := upd A.rf r (A.fa n), fa := upd (A.fa) n 0, rl := A.rl, ah := upd (upd A.ah f (A.ah n)) n 0, rn := upd A.rn r (A.rn r - 1), th := upd A.th n (.agg #[.int .i64 0, .int .i64 0, .int .u8 0, .int .i64 0, .int .i64 0]), ro := upd A.ro n (-1) } := by
    rw [hB]; unfold Ar.cut Ar.wipe; simp [ha, hf]
  simp only [ha, hf, put5] at HW hB'
  have HBB := Lib.hid hB'
  have c0 := h0.c0.cell
  have c1 := h0.c1.cell
  have c2 := h0.c2.cell
  have hbw := h0.c0.lt
  have hbw0 := h.c0.lt
  have hglw := h0.lr.1
  have hglw0 := h.lr.1
  have hgrw := h0.lr.2
  have hgrw0 := h.lr.2
  obtain ⟨t00, u00⟩ := h0.l0 n (by omega) 0 (.int .i64 v0) (by rw [hv]; rfl)
  obtain ⟨t01, u01⟩ := h0.l0 n (by omega) 1 (.int .i64 v1) (by rw [hv]; rfl)
  obtain ⟨t02, u02⟩ := h0.l0 n (by omega) 2 (.int .u8 v2) (by rw [hv]; rfl)
  obtain ⟨t03, u03⟩ := h0.l0 n (by omega) 3 (.int .i64 v3) (by rw [hv]; rfl)
  obtain ⟨t04, u04⟩ := h0.l0 n (by omega) 4 (.int .i64 v4) (by rw [hv]; rfl)
  rw [Nat.add_zero] at t00 u00
  obtain ⟨t1, u1⟩ := h0.l1 n (by omega)
  obtain ⟨t2, u2⟩ := h0.l2 n (by omega)
  obtain ⟨t3, u3⟩ := h0.l3 n (by omega)
  obtain ⟨q0, p0⟩ := h0.r0 r (by omega)
  obtain ⟨q1, p1⟩ := h0.r1 r (by omega)
  obtain ⟨q2, p2⟩ := h0.r2 r (by omega)
  rw [hro] at t1
  rw [ha] at t2
  rw [hf] at t3
  obtain ⟨t5, u5⟩ := h0.l2 f (by omega)
  have ef : ((f : Int) == -1) = false := by simp
  have n1 := h.n1
  have n2 := h.n2
  have n4 := h.n4
  have n1' := Ne.symm n1
  have n2' := Ne.symm n2
  have n4' := Ne.symm n4
  have HP := Lib.hid hp
  have HGF := Lib.hid hBgf
  have HAr := Lib.hid h
  clear e h h0 hir hB hB' hp hBgf hBnf hro ha hf hv
  generalize A.rn r = rn at *
  go_enter Try.func81, Try.ntmps81
  go_wp2_with ((go_at_call 129; refine HI.out.mono ?_; rintro e w1 ⟨rfl, rfl⟩))
  go_quiet (fail)
  go_wp2_with (fail)
  go_region
  go_wp2_with (fail)
  refine (HG.out _ (by rw [HBB.out]; (repeat (first | (with_reducible refine ArAt.drew ?_) | (with_reducible refine ArAt.drewN ?_ _) | (with_reducible refine ArAt.alloc ?_ _))); exact HW.out _ (by (repeat (first | (with_reducible refine ArAt.drew ?_) | (with_reducible refine ArAt.drewN ?_ _) | (with_reducible refine ArAt.alloc ?_ _))); exact HAr.out))).mono ?_
  rintro e w2 ⟨rfl, hA2, o2⟩
  rw [HGF.out] at o2
  have o3 : Only (A.blk b) ((w.alloc (.cells #[.int .i64 0, .int .i64 0, .int .u8 0, .int .i64 0, .int .i64 0] 54)).alloc (.cells #[.int .i64 v0, .int .i64 v1, .int .u8 v2, .int .i64 v3, .int .i64 v4, .int .i64 r, .int .i64 (-1), .int .i64 f] 201)) w2 := Only.trans' (by repeat' (first | (with_reducible exact Only.refl _ _) | (with_reducible assumption) | (refine Only.of_none ?_; with_reducible assumption) | (with_reducible refine Only.drewN ?_ _) | (with_reducible refine Only.drew ?_) | (with_reducible refine Only.alloc ?_ _) | (with_reducible refine Only.setCell ?_ ?_ _) | (with_reducible refine Only.then0 ?_ (by with_reducible assumption)) | (with_reducible refine Only.thenN ?_ (by with_reducible assumption) ?_) | (with_reducible refine Only.trans ?_ (by with_reducible assumption)) | (refine .inl ?_; first | rfl | (simp; done) | (simp [Ar.blk]; done)) | (refine .inr ?_; first | omega | (simp; done) | (simp; omega) | exact Only.size (by with_reducible assumption) | (refine Nat.le_trans (Only.size (by with_reducible assumption)) ?_; simp; done)))) o2 (fun i _ h => h.elim .inl (fun h => .inr (.inr (.inr h))))
  have hgfw := HAr.out.gf_lt
  have d00 := o3.cell (b := w.heap.size + 1) (o := 0) (v := .int .i64 v0) (by simp [go_sem]) (by unfold Ar.blk; omega)
  have d01 := o3.cell (b := w.heap.size + 1) (o := 1) (v := .int .i64 v1) (by simp [go_sem]) (by unfold Ar.blk; omega)
  have d02 := o3.cell (b := w.heap.size + 1) (o := 2) (v := .int .u8 v2) (by simp [go_sem]) (by unfold Ar.blk; omega)
  have d03 := o3.cell (b := w.heap.size + 1) (o := 3) (v := .int .i64 v3) (by simp [go_sem]) (by unfold Ar.blk; omega)
  have d04 := o3.cell (b := w.heap.size + 1) (o := 4) (v := .int .i64 v4) (by simp [go_sem]) (by unfold Ar.blk; omega)
  have zb0 := ((Cell.new (w := w) (cs := #[.int .i64 0, .int .i64 0, .int .u8 0, .int .i64 0, .int .i64 0]) (t := 54) (o := 0) rfl).alloc _).only o3 (by show ¬ A.blk b w.heap.size; unfold Ar.blk; omega)
  have zc0 := zb0.cell
  have zf0 := zb0.free
  have zb1 := ((Cell.new (w := w) (cs := #[.int .i64 0, .int .i64 0, .int .u8 0, .int .i64 0, .int .i64 0]) (t := 54) (o := 1) rfl).alloc _).only o3 (by show ¬ A.blk b w.heap.size; unfold Ar.blk; omega)
  have zc1 := zb1.cell
  have zf1 := zb1.free
  have zb2 := ((Cell.new (w := w) (cs := #[.int .i64 0, .int .i64 0, .int .u8 0, .int .i64 0, .int .i64 0]) (t := 54) (o := 2) rfl).alloc _).only o3 (by show ¬ A.blk b w.heap.size; unfold Ar.blk; omega)
  have zc2 := zb2.cell
  have zf2 := zb2.free
  have zb3 := ((Cell.new (w := w) (cs := #[.int .i64 0, .int .i64 0, .int .u8 0, .int .i64 0, .int .i64 0]) (t := 54) (o := 3) rfl).alloc _).only o3 (by show ¬ A.blk b w.heap.size; unfold Ar.blk; omega)
  have zc3 := zb3.cell
  have zf3 := zb3.free
  have zb4 := ((Cell.new (w := w) (cs := #[.int .i64 0, .int .i64 0, .int .u8 0, .int .i64 0, .int .i64 0]) (t := 54) (o := 4) rfl).alloc _).only o3 (by show ¬ A.blk b w.heap.size; unfold Ar.blk; omega)
  have zc4 := zb4.cell
  have zf4 := zb4.free
  have rr0 : (((((w2.setCell ⟨w.heap.size, 0, none⟩ (.int .i64 v0)).setCell ⟨w.heap.size, 1, none⟩ (.int .i64 v1)).setCell ⟨w.heap.size, 2, none⟩ (.int .u8 v2)).setCell ⟨w.heap.size, 3, none⟩ (.int .i64 v3)).setCell ⟨w.heap.size, 4, none⟩ (.int .i64 v4)).cell? ⟨w.heap.size, 0, none⟩ = some (.int .i64 v0) := (show Cell (((((w2.setCell ⟨w.heap.size, 0, none⟩ (.int .i64 v0)).setCell ⟨w.heap.size, 1, none⟩ (.int .i64 v1)).setCell ⟨w.heap.size, 2, none⟩ (.int .u8 v2)).setCell ⟨w.heap.size, 3, none⟩ (.int .i64 v3)).setCell ⟨w.heap.size, 4, none⟩ (.int .i64 v4)) w.heap.size 0 (.int .i64 v0) from (((((zb0.set _).far (off_ne (by decide)) _).far (off_ne (by decide)) _).far (off_ne (by decide)) _).far (off_ne (by decide)) _)).cell
  have rr1 : (((((w2.setCell ⟨w.heap.size, 0, none⟩ (.int .i64 v0)).setCell ⟨w.heap.size, 1, none⟩ (.int .i64 v1)).setCell ⟨w.heap.size, 2, none⟩ (.int .u8 v2)).setCell ⟨w.heap.size, 3, none⟩ (.int .i64 v3)).setCell ⟨w.heap.size, 4, none⟩ (.int .i64 v4)).cell? ⟨w.heap.size, 1, none⟩ = some (.int .i64 v1) := (show Cell (((((w2.setCell ⟨w.heap.size, 0, none⟩ (.int .i64 v0)).setCell ⟨w.heap.size, 1, none⟩ (.int .i64 v1)).setCell ⟨w.heap.size, 2, none⟩ (.int .u8 v2)).setCell ⟨w.heap.size, 3, none⟩ (.int .i64 v3)).setCell ⟨w.heap.size, 4, none⟩ (.int .i64 v4)) w.heap.size 1 (.int .i64 v1) from (((((zb1.far (off_ne (by decide)) _).set _).far (off_ne (by decide)) _).far (off_ne (by decide)) _).far (off_ne (by decide)) _)).cell
  have rr2 : (((((w2.setCell ⟨w.heap.size, 0, none⟩ (.int .i64 v0)).setCell ⟨w.heap.size, 1, none⟩ (.int .i64 v1)).setCell ⟨w.heap.size, 2, none⟩ (.int .u8 v2)).setCell ⟨w.heap.size, 3, none⟩ (.int .i64 v3)).setCell ⟨w.heap.size, 4, none⟩ (.int .i64 v4)).cell? ⟨w.heap.size, 2, none⟩ = some (.int .u8 v2) := (show Cell (((((w2.setCell ⟨w.heap.size, 0, none⟩ (.int .i64 v0)).setCell ⟨w.heap.size, 1, none⟩ (.int .i64 v1)).setCell ⟨w.heap.size, 2, none⟩ (.int .u8 v2)).setCell ⟨w.heap.size, 3, none⟩ (.int .i64 v3)).setCell ⟨w.heap.size, 4, none⟩ (.int .i64 v4)) w.heap.size 2 (.int .u8 v2) from (((((zb2.far (off_ne (by decide)) _).far (off_ne (by decide)) _).set _).far (off_ne (by decide)) _).far (off_ne (by decide)) _)).cell
  have rr3 : (((((w2.setCell ⟨w.heap.size, 0, none⟩ (.int .i64 v0)).setCell ⟨w.heap.size, 1, none⟩ (.int .i64 v1)).setCell ⟨w.heap.size, 2, none⟩ (.int .u8 v2)).setCell ⟨w.heap.size, 3, none⟩ (.int .i64 v3)).setCell ⟨w.heap.size, 4, none⟩ (.int .i64 v4)).cell? ⟨w.heap.size, 3, none⟩ = some (.int .i64 v3) := (show Cell (((((w2.setCell ⟨w.heap.size, 0, none⟩ (.int .i64 v0)).setCell ⟨w.heap.size, 1, none⟩ (.int .i64 v1)).setCell ⟨w.heap.size, 2, none⟩ (.int .u8 v2)).setCell ⟨w.heap.size, 3, none⟩ (.int .i64 v3)).setCell ⟨w.heap.size, 4, none⟩ (.int .i64 v4)) w.heap.size 3 (.int .i64 v3) from (((((zb3.far (off_ne (by decide)) _).far (off_ne (by decide)) _).far (off_ne (by decide)) _).set _).far (off_ne (by decide)) _)).cell
  have rr4 : (((((w2.setCell ⟨w.heap.size, 0, none⟩ (.int .i64 v0)).setCell ⟨w.heap.size, 1, none⟩ (.int .i64 v1)).setCell ⟨w.heap.size, 2, none⟩ (.int .u8 v2)).setCell ⟨w.heap.size, 3, none⟩ (.int .i64 v3)).setCell ⟨w.heap.size, 4, none⟩ (.int .i64 v4)).cell? ⟨w.heap.size, 4, none⟩ = some (.int .i64 v4) := (show Cell (((((w2.setCell ⟨w.heap.size, 0, none⟩ (.int .i64 v0)).setCell ⟨w.heap.size, 1, none⟩ (.int .i64 v1)).setCell ⟨w.heap.size, 2, none⟩ (.int .u8 v2)).setCell ⟨w.heap.size, 3, none⟩ (.int .i64 v3)).setCell ⟨w.heap.size, 4, none⟩ (.int .i64 v4)) w.heap.size 4 (.int .i64 v4) from (((((zb4.far (off_ne (by decide)) _).far (off_ne (by decide)) _).far (off_ne (by decide)) _).far (off_ne (by decide)) _).set _)).cell
  have OZ := Lib.hid (show Only (· = w.heap.size) w2 (((((w2.setCell ⟨w.heap.size, 0, none⟩ (.int .i64 v0)).setCell ⟨w.heap.size, 1, none⟩ (.int .i64 v1)).setCell ⟨w.heap.size, 2, none⟩ (.int .u8 v2)).setCell ⟨w.heap.size, 3, none⟩ (.int .i64 v3)).setCell ⟨w.heap.size, 4, none⟩ (.int .i64 v4)) from (((((Only.refl (· = w.heap.size) w2).setCell (.inl rfl) _).setCell (.inl rfl) _).setCell (.inl rfl) _).setCell (.inl rfl) _).setCell (.inl rfl) _)
  have HA2 := Lib.hid hA2
  have O3 := Lib.hid o3
  clear hA2 o2 zb0 zb1 zb2 zb3 zb4 o3
  go_wp2
  refine bodyPost_ret (by simp [results, Try.results81, go_sem, rr0, rr1, rr2, rr3, rr4]; try rfl) rfl ?_
  refine ⟨rfl, by rw [HP.out]; exact ArAt.only HA2.out OZ.out (by show ¬ (b = w.heap.size); omega) (by rw [show (B.give n).gl = A.gl by rw [HBB.out]; rfl]; show ¬ (A.gl = w.heap.size); omega) (by rw [show (B.give n).gr = A.gr by rw [HBB.out]; rfl]; show ¬ (A.gr = w.heap.size); omega) (by rw [show (B.give n).gf = A.gf by rw [HBB.out]; rfl]; show ¬ (A.gf = w.heap.size); omega), ?_⟩
  exact ((((Only.refl _ w).alloc _).alloc _).trans O3.out).trans' OZ.out (fun i hi e => by omega)

set_option maxHeartbeats 4000000 in
set_option maxRecDepth 100000 in
theorem s_take_sn (w : World) (b : Nat) (A : Ar) (n r : Nat) (v0 v1 v2 v3 v4 : Int) (h : ArAt w b A) (hn : n < A.room) (hro : A.ro n = (r : Int)) (hr : r < A.nr) (hv : A.th n = .agg #[.int .i64 v0, .int .i64 v1, .int .u8 v2, .int .i64 v3, .int .i64 v4]) (hc : 1 ≤ A.rn r ∧ A.rn r ≤ 65536) (hnf : A.nf < A.room) (a : Nat) (ha : A.ah n = (a : Int)) (har : a < A.room) (han : a ≠ n) (hf : A.fa n = -1) :
    Calls Try.prog 81 #[.pointer (some ⟨b, 0, none⟩), .int .i64 n] w fun e w' => e = .returned (.tuple #[.agg #[.int .i64 v0, .int .i64 v1, .int .u8 v2, .int .i64 v3, .int .i64 v4], .bool true]) ∧ ArAt w' b (A.take n (.agg #[.int .i64 0, .int .i64 0, .int .u8 0, .int .i64 0, .int .i64 0])) ∧ Only (A.blk b) w w' := by
  have hir : A.hasN n := ⟨⟨by omega, by omega⟩, by rw [Int.toNat_natCast, hro]; omega⟩
  have h0 := h.alloc (.cells #[.int .i64 0, .int .i64 0, .int .u8 0, .int .i64 0, .int .i64 0] 54)
  have HI := Lib.hid (s_has _ b A n h0)
  have e : decide (A.hasN n) = true := by simp [hir]
  rw [e] at HI
  have hs := h.small
  have hp : A.take n (.agg #[.int .i64 0, .int .i64 0, .int .u8 0, .int .i64 0, .int .i64 0]) = ((A.cut n r).wipe n (.agg #[.int .i64 0, .int .i64 0, .int .u8 0, .int .i64 0, .int .i64 0])).give n := by unfold Ar.take; rw [hro]; rfl
  obtain ⟨B, hB⟩ : ∃ B : Ar, B = (A.cut n r).wipe n (.agg #[.int .i64 0, .int .i64 0, .int .u8 0, .int .i64 0, .int .i64 0]) := ⟨_, rfl⟩
  rw [← hB] at hp
  have hBnf : B.nf < B.room := by rw [hB]; exact hnf
  have hBgf : B.gf = A.gf := by rw [hB]; rfl
  have HG := Lib.hid (fun W (hW : ArAt W b B) => s_give W b B n hW hBnf)
  have HW := Lib.hid (fun W (hW : ArAt W b A) => (((((((hW.set_fa (i := a) (by omega) (A.fa n)).set_rl (i := r) (by simp only; omega) (A.ah n)).set_rn (i := r) (by simp only; omega) (A.rn r - 1)).set_th (i := n) (by simp only; omega) (.int .i64 0) (.int .i64 0) (.int .u8 0) (.int .i64 0) (.int .i64 0)).set_ro (i := n) (by simp only; omega) (-1)).set_ah (i := n) (by simp only; omega) 0).set_fa (i := n) (by simp only; omega) 0))
  have hB' : B = { A with rf := A.rf, fa := upd (upd A.fa a (A.fa n)) n 0, rl := upd A.rl r (A.ah n), ah := upd (A.ah) n 0, rn := upd A.rn r (A.rn r - 1), th := upd A.th n (.agg #[.int .i64 0, .int .i64 0, .int .u8 0, .int .i64 0, .int .i64 0]), ro := upd A.ro n (-1) } := by
    rw [hB]; unfold Ar.cut Ar.wipe; simp [ha, hf]
  simp only [ha, hf, put5] at HW hB'
  have HBB := Lib.hid hB'
  have c0 := h0.c0.cell
  have c1 := h0.c1.cell
  have c2 := h0.c2.cell
  have hbw := h0.c0.lt
  have hbw0 := h.c0.lt
  have hglw := h0.lr.1
  have hglw0 := h.lr.1
  have hgrw := h0.lr.2
  have hgrw0 := h.lr.2
  obtain ⟨t00, u00⟩ := h0.l0 n (by omega) 0 (.int .i64 v0) (by rw [hv]; rfl)
  obtain ⟨t01, u01⟩ := h0.l0 n (by omega) 1 (.int .i64 v1) (by rw [hv]; rfl)
  obtain ⟨t02, u02⟩ := h0.l0 n (by omega) 2 (.int .u8 v2) (by rw [hv]; rfl)
  obtain ⟨t03, u03⟩ := h0.l0 n (by omega) 3 (.int .i64 v3) (by rw [hv]; rfl)
  obtain ⟨t04, u04⟩ := h0.l0 n (by omega) 4 (.int .i64 v4) (by rw [hv]; rfl)
  rw [Nat.add_zero] at t00 u00
  obtain ⟨t1, u1⟩ := h0.l1 n (by omega)
  obtain ⟨t2, u2⟩ := h0.l2 n (by omega)
  obtain ⟨t3, u3⟩ := h0.l3 n (by omega)
  obtain ⟨q0, p0⟩ := h0.r0 r (by omega)
  obtain ⟨q1, p1⟩ := h0.r1 r (by omega)
  obtain ⟨q2, p2⟩ := h0.r2 r (by omega)
  rw [hro] at t1
  rw [ha] at t2
  rw [hf] at t3
  obtain ⟨t4, u4⟩ := h0.l3 a (by omega)
  have ea : ((a : Int) == -1) = false := by simp
  have n1 := h.n1
  have n2 := h.n2
  have n4 := h.n4
  have n1' := Ne.symm n1
  have n2' := Ne.symm n2
  have n4' := Ne.symm n4
  have HP := Lib.hid hp
  have HGF := Lib.hid hBgf
  have HAr := Lib.hid h
  clear e h h0 hir hB hB' hp hBgf hBnf hro ha hf hv
  generalize A.rn r = rn at *
  go_enter Try.func81, Try.ntmps81
  go_wp2_with ((go_at_call 129; refine HI.out.mono ?_; rintro e w1 ⟨rfl, rfl⟩))
  go_quiet (fail)
  go_wp2_with (fail)
  go_region
  go_wp2_with (fail)
  refine (HG.out _ (by rw [HBB.out]; (repeat (first | (with_reducible refine ArAt.drew ?_) | (with_reducible refine ArAt.drewN ?_ _) | (with_reducible refine ArAt.alloc ?_ _))); exact HW.out _ (by (repeat (first | (with_reducible refine ArAt.drew ?_) | (with_reducible refine ArAt.drewN ?_ _) | (with_reducible refine ArAt.alloc ?_ _))); exact HAr.out))).mono ?_
  rintro e w2 ⟨rfl, hA2, o2⟩
  rw [HGF.out] at o2
  have o3 : Only (A.blk b) ((w.alloc (.cells #[.int .i64 0, .int .i64 0, .int .u8 0, .int .i64 0, .int .i64 0] 54)).alloc (.cells #[.int .i64 v0, .int .i64 v1, .int .u8 v2, .int .i64 v3, .int .i64 v4, .int .i64 r, .int .i64 a, .int .i64 (-1)] 201)) w2 := Only.trans' (by repeat' (first | (with_reducible exact Only.refl _ _) | (with_reducible assumption) | (refine Only.of_none ?_; with_reducible assumption) | (with_reducible refine Only.drewN ?_ _) | (with_reducible refine Only.drew ?_) | (with_reducible refine Only.alloc ?_ _) | (with_reducible refine Only.setCell ?_ ?_ _) | (with_reducible refine Only.then0 ?_ (by with_reducible assumption)) | (with_reducible refine Only.thenN ?_ (by with_reducible assumption) ?_) | (with_reducible refine Only.trans ?_ (by with_reducible assumption)) | (refine .inl ?_; first | rfl | (simp; done) | (simp [Ar.blk]; done)) | (refine .inr ?_; first | omega | (simp; done) | (simp; omega) | exact Only.size (by with_reducible assumption) | (refine Nat.le_trans (Only.size (by with_reducible assumption)) ?_; simp; done)))) o2 (fun i _ h => h.elim .inl (fun h => .inr (.inr (.inr h))))
  have hgfw := HAr.out.gf_lt
  have d00 := o3.cell (b := w.heap.size + 1) (o := 0) (v := .int .i64 v0) (by simp [go_sem]) (by unfold Ar.blk; omega)
  have d01 := o3.cell (b := w.heap.size + 1) (o := 1) (v := .int .i64 v1) (by simp [go_sem]) (by unfold Ar.blk; omega)
  have d02 := o3.cell (b := w.heap.size + 1) (o := 2) (v := .int .u8 v2) (by simp [go_sem]) (by unfold Ar.blk; omega)
  have d03 := o3.cell (b := w.heap.size + 1) (o := 3) (v := .int .i64 v3) (by simp [go_sem]) (by unfold Ar.blk; omega)
  have d04 := o3.cell (b := w.heap.size + 1) (o := 4) (v := .int .i64 v4) (by simp [go_sem]) (by unfold Ar.blk; omega)
  have zb0 := ((Cell.new (w := w) (cs := #[.int .i64 0, .int .i64 0, .int .u8 0, .int .i64 0, .int .i64 0]) (t := 54) (o := 0) rfl).alloc _).only o3 (by show ¬ A.blk b w.heap.size; unfold Ar.blk; omega)
  have zc0 := zb0.cell
  have zf0 := zb0.free
  have zb1 := ((Cell.new (w := w) (cs := #[.int .i64 0, .int .i64 0, .int .u8 0, .int .i64 0, .int .i64 0]) (t := 54) (o := 1) rfl).alloc _).only o3 (by show ¬ A.blk b w.heap.size; unfold Ar.blk; omega)
  have zc1 := zb1.cell
  have zf1 := zb1.free
  have zb2 := ((Cell.new (w := w) (cs := #[.int .i64 0, .int .i64 0, .int .u8 0, .int .i64 0, .int .i64 0]) (t := 54) (o := 2) rfl).alloc _).only o3 (by show ¬ A.blk b w.heap.size; unfold Ar.blk; omega)
  have zc2 := zb2.cell
  have zf2 := zb2.free
  have zb3 := ((Cell.new (w := w) (cs := #[.int .i64 0, .int .i64 0, .int .u8 0, .int .i64 0, .int .i64 0]) (t := 54) (o := 3) rfl).alloc _).only o3 (by show ¬ A.blk b w.heap.size; unfold Ar.blk; omega)
  have zc3 := zb3.cell
  have zf3 := zb3.free
  have zb4 := ((Cell.new (w := w) (cs := #[.int .i64 0, .int .i64 0, .int .u8 0, .int .i64 0, .int .i64 0]) (t := 54) (o := 4) rfl).alloc _).only o3 (by show ¬ A.blk b w.heap.size; unfold Ar.blk; omega)
  have zc4 := zb4.cell
  have zf4 := zb4.free
  have rr0 : (((((w2.setCell ⟨w.heap.size, 0, none⟩ (.int .i64 v0)).setCell ⟨w.heap.size, 1, none⟩ (.int .i64 v1)).setCell ⟨w.heap.size, 2, none⟩ (.int .u8 v2)).setCell ⟨w.heap.size, 3, none⟩ (.int .i64 v3)).setCell ⟨w.heap.size, 4, none⟩ (.int .i64 v4)).cell? ⟨w.heap.size, 0, none⟩ = some (.int .i64 v0) := (show Cell (((((w2.setCell ⟨w.heap.size, 0, none⟩ (.int .i64 v0)).setCell ⟨w.heap.size, 1, none⟩ (.int .i64 v1)).setCell ⟨w.heap.size, 2, none⟩ (.int .u8 v2)).setCell ⟨w.heap.size, 3, none⟩ (.int .i64 v3)).setCell ⟨w.heap.size, 4, none⟩ (.int .i64 v4)) w.heap.size 0 (.int .i64 v0) from (((((zb0.set _).far (off_ne (by decide)) _).far (off_ne (by decide)) _).far (off_ne (by decide)) _).far (off_ne (by decide)) _)).cell
  have rr1 : (((((w2.setCell ⟨w.heap.size, 0, none⟩ (.int .i64 v0)).setCell ⟨w.heap.size, 1, none⟩ (.int .i64 v1)).setCell ⟨w.heap.size, 2, none⟩ (.int .u8 v2)).setCell ⟨w.heap.size, 3, none⟩ (.int .i64 v3)).setCell ⟨w.heap.size, 4, none⟩ (.int .i64 v4)).cell? ⟨w.heap.size, 1, none⟩ = some (.int .i64 v1) := (show Cell (((((w2.setCell ⟨w.heap.size, 0, none⟩ (.int .i64 v0)).setCell ⟨w.heap.size, 1, none⟩ (.int .i64 v1)).setCell ⟨w.heap.size, 2, none⟩ (.int .u8 v2)).setCell ⟨w.heap.size, 3, none⟩ (.int .i64 v3)).setCell ⟨w.heap.size, 4, none⟩ (.int .i64 v4)) w.heap.size 1 (.int .i64 v1) from (((((zb1.far (off_ne (by decide)) _).set _).far (off_ne (by decide)) _).far (off_ne (by decide)) _).far (off_ne (by decide)) _)).cell
  have rr2 : (((((w2.setCell ⟨w.heap.size, 0, none⟩ (.int .i64 v0)).setCell ⟨w.heap.size, 1, none⟩ (.int .i64 v1)).setCell ⟨w.heap.size, 2, none⟩ (.int .u8 v2)).setCell ⟨w.heap.size, 3, none⟩ (.int .i64 v3)).setCell ⟨w.heap.size, 4, none⟩ (.int .i64 v4)).cell? ⟨w.heap.size, 2, none⟩ = some (.int .u8 v2) := (show Cell (((((w2.setCell ⟨w.heap.size, 0, none⟩ (.int .i64 v0)).setCell ⟨w.heap.size, 1, none⟩ (.int .i64 v1)).setCell ⟨w.heap.size, 2, none⟩ (.int .u8 v2)).setCell ⟨w.heap.size, 3, none⟩ (.int .i64 v3)).setCell ⟨w.heap.size, 4, none⟩ (.int .i64 v4)) w.heap.size 2 (.int .u8 v2) from (((((zb2.far (off_ne (by decide)) _).far (off_ne (by decide)) _).set _).far (off_ne (by decide)) _).far (off_ne (by decide)) _)).cell
  have rr3 : (((((w2.setCell ⟨w.heap.size, 0, none⟩ (.int .i64 v0)).setCell ⟨w.heap.size, 1, none⟩ (.int .i64 v1)).setCell ⟨w.heap.size, 2, none⟩ (.int .u8 v2)).setCell ⟨w.heap.size, 3, none⟩ (.int .i64 v3)).setCell ⟨w.heap.size, 4, none⟩ (.int .i64 v4)).cell? ⟨w.heap.size, 3, none⟩ = some (.int .i64 v3) := (show Cell (((((w2.setCell ⟨w.heap.size, 0, none⟩ (.int .i64 v0)).setCell ⟨w.heap.size, 1, none⟩ (.int .i64 v1)).setCell ⟨w.heap.size, 2, none⟩ (.int .u8 v2)).setCell ⟨w.heap.size, 3, none⟩ (.int .i64 v3)).setCell ⟨w.heap.size, 4, none⟩ (.int .i64 v4)) w.heap.size 3 (.int .i64 v3) from (((((zb3.far (off_ne (by decide)) _).far (off_ne (by decide)) _).far (off_ne (by decide)) _).set _).far (off_ne (by decide)) _)).cell
  have rr4 : (((((w2.setCell ⟨w.heap.size, 0, none⟩ (.int .i64 v0)).setCell ⟨w.heap.size, 1, none⟩ (.int .i64 v1)).setCell ⟨w.heap.size, 2, none⟩ (.int .u8 v2)).setCell ⟨w.heap.size, 3, none⟩ (.int .i64 v3)).setCell ⟨w.heap.size, 4, none⟩ (.int .i64 v4)).cell? ⟨w.heap.size, 4, none⟩ = some (.int .i64 v4) := (show Cell (((((w2.setCell ⟨w.heap.size, 0, none⟩ (.int .i64 v0)).setCell ⟨w.heap.size, 1, none⟩ (.int .i64 v1)).setCell ⟨w.heap.size, 2, none⟩ (.int .u8 v2)).setCell ⟨w.heap.size, 3, none⟩ (.int .i64 v3)).setCell ⟨w.heap.size, 4, none⟩ (.int .i64 v4)) w.heap.size 4 (.int .i64 v4) from (((((zb4.far (off_ne (by decide)) _).far (off_ne (by decide)) _).far (off_ne (by decide)) _).far (off_ne (by decide)) _).set _)).cell
  have OZ := Lib.hid (show Only (· = w.heap.size) w2 (((((w2.setCell ⟨w.heap.size, 0, none⟩ (.int .i64 v0)).setCell ⟨w.heap.size, 1, none⟩ (.int .i64 v1)).setCell ⟨w.heap.size, 2, none⟩ (.int .u8 v2)).setCell ⟨w.heap.size, 3, none⟩ (.int .i64 v3)).setCell ⟨w.heap.size, 4, none⟩ (.int .i64 v4)) from (((((Only.refl (· = w.heap.size) w2).setCell (.inl rfl) _).setCell (.inl rfl) _).setCell (.inl rfl) _).setCell (.inl rfl) _).setCell (.inl rfl) _)
  have HA2 := Lib.hid hA2
  have O3 := Lib.hid o3
  clear hA2 o2 zb0 zb1 zb2 zb3 zb4 o3
  go_wp2
  refine bodyPost_ret (by simp [results, Try.results81, go_sem, rr0, rr1, rr2, rr3, rr4]; try rfl) rfl ?_
  refine ⟨rfl, by rw [HP.out]; exact ArAt.only HA2.out OZ.out (by show ¬ (b = w.heap.size); omega) (by rw [show (B.give n).gl = A.gl by rw [HBB.out]; rfl]; show ¬ (A.gl = w.heap.size); omega) (by rw [show (B.give n).gr = A.gr by rw [HBB.out]; rfl]; show ¬ (A.gr = w.heap.size); omega) (by rw [show (B.give n).gf = A.gf by rw [HBB.out]; rfl]; show ¬ (A.gf = w.heap.size); omega), ?_⟩
  exact ((((Only.refl _ w).alloc _).alloc _).trans O3.out).trans' OZ.out (fun i hi e => by omega)

set_option maxHeartbeats 4000000 in
set_option maxRecDepth 100000 in
theorem s_take_ss (w : World) (b : Nat) (A : Ar) (n r : Nat) (v0 v1 v2 v3 v4 : Int) (h : ArAt w b A) (hn : n < A.room) (hro : A.ro n = (r : Int)) (hr : r < A.nr) (hv : A.th n = .agg #[.int .i64 v0, .int .i64 v1, .int .u8 v2, .int .i64 v3, .int .i64 v4]) (hc : 1 ≤ A.rn r ∧ A.rn r ≤ 65536) (hnf : A.nf < A.room) (a : Nat) (ha : A.ah n = (a : Int)) (har : a < A.room) (han : a ≠ n) (f : Nat) (hf : A.fa n = (f : Int)) (hfr : f < A.room) (hfn : f ≠ n) (haf : a ≠ f) :
    Calls Try.prog 81 #[.pointer (some ⟨b, 0, none⟩), .int .i64 n] w fun e w' => e = .returned (.tuple #[.agg #[.int .i64 v0, .int .i64 v1, .int .u8 v2, .int .i64 v3, .int .i64 v4], .bool true]) ∧ ArAt w' b (A.take n (.agg #[.int .i64 0, .int .i64 0, .int .u8 0, .int .i64 0, .int .i64 0])) ∧ Only (A.blk b) w w' := by
  have hir : A.hasN n := ⟨⟨by omega, by omega⟩, by rw [Int.toNat_natCast, hro]; omega⟩
  have h0 := h.alloc (.cells #[.int .i64 0, .int .i64 0, .int .u8 0, .int .i64 0, .int .i64 0] 54)
  have HI := Lib.hid (s_has _ b A n h0)
  have e : decide (A.hasN n) = true := by simp [hir]
  rw [e] at HI
  have hs := h.small
  have hp : A.take n (.agg #[.int .i64 0, .int .i64 0, .int .u8 0, .int .i64 0, .int .i64 0]) = ((A.cut n r).wipe n (.agg #[.int .i64 0, .int .i64 0, .int .u8 0, .int .i64 0, .int .i64 0])).give n := by unfold Ar.take; rw [hro]; rfl
  obtain ⟨B, hB⟩ : ∃ B : Ar, B = (A.cut n r).wipe n (.agg #[.int .i64 0, .int .i64 0, .int .u8 0, .int .i64 0, .int .i64 0]) := ⟨_, rfl⟩
  rw [← hB] at hp
  have hBnf : B.nf < B.room := by rw [hB]; exact hnf
  have hBgf : B.gf = A.gf := by rw [hB]; rfl
  have HG := Lib.hid (fun W (hW : ArAt W b B) => s_give W b B n hW hBnf)
  have HW := Lib.hid (fun W (hW : ArAt W b A) => (((((((hW.set_fa (i := a) (by omega) (A.fa n)).set_ah (i := f) (by simp only; omega) (A.ah n)).set_rn (i := r) (by simp only; omega) (A.rn r - 1)).set_th (i := n) (by simp only; omega) (.int .i64 0) (.int .i64 0) (.int .u8 0) (.int .i64 0) (.int .i64 0)).set_ro (i := n) (by simp only; omega) (-1)).set_ah (i := n) (by simp only; omega) 0).set_fa (i := n) (by simp only; omega) 0))
  have hB' : B = { A with rf := A.rf, fa := upd (upd A.fa a (A.fa n)) n 0, rl := A.rl, ah := upd (upd A.ah f (A.ah n)) n 0, rn := upd A.rn r (A.rn r - 1), th := upd A.th n (.agg #[.int .i64 0, .int .i64 0, .int .u8 0, .int .i64 0, .int .i64 0]), ro := upd A.ro n (-1) } := by
    rw [hB]; unfold Ar.cut Ar.wipe; simp [ha, hf]
  simp only [ha, hf, put5] at HW hB'
  have HBB := Lib.hid hB'
  have c0 := h0.c0.cell
  have c1 := h0.c1.cell
  have c2 := h0.c2.cell
  have hbw := h0.c0.lt
  have hbw0 := h.c0.lt
  have hglw := h0.lr.1
  have hglw0 := h.lr.1
  have hgrw := h0.lr.2
  have hgrw0 := h.lr.2
  obtain ⟨t00, u00⟩ := h0.l0 n (by omega) 0 (.int .i64 v0) (by rw [hv]; rfl)
  obtain ⟨t01, u01⟩ := h0.l0 n (by omega) 1 (.int .i64 v1) (by rw [hv]; rfl)
  obtain ⟨t02, u02⟩ := h0.l0 n (by omega) 2 (.int .u8 v2) (by rw [hv]; rfl)
  obtain ⟨t03, u03⟩ := h0.l0 n (by omega) 3 (.int .i64 v3) (by rw [hv]; rfl)
  obtain ⟨t04, u04⟩ := h0.l0 n (by omega) 4 (.int .i64 v4) (by rw [hv]; rfl)
  rw [Nat.add_zero] at t00 u00
  obtain ⟨t1, u1⟩ := h0.l1 n (by omega)
  obtain ⟨t2, u2⟩ := h0.l2 n (by omega)
  obtain ⟨t3, u3⟩ := h0.l3 n (by omega)
  obtain ⟨q0, p0⟩ := h0.r0 r (by omega)
  obtain ⟨q1, p1⟩ := h0.r1 r (by omega)
  obtain ⟨q2, p2⟩ := h0.r2 r (by omega)
  rw [hro] at t1
  rw [ha] at t2
  rw [hf] at t3
  obtain ⟨t4, u4⟩ := h0.l3 a (by omega)
  have ea : ((a : Int) == -1) = false := by simp
  obtain ⟨t5, u5⟩ := h0.l2 f (by omega)
  have ef : ((f : Int) == -1) = false := by simp
  have n1 := h.n1
  have n2 := h.n2
  have n4 := h.n4
  have n1' := Ne.symm n1
  have n2' := Ne.symm n2
  have n4' := Ne.symm n4
  have HP := Lib.hid hp
  have HGF := Lib.hid hBgf
  have HAr := Lib.hid h
  clear e h h0 hir hB hB' hp hBgf hBnf hro ha hf hv
  generalize A.rn r = rn at *
  go_enter Try.func81, Try.ntmps81
  go_wp2_with ((go_at_call 129; refine HI.out.mono ?_; rintro e w1 ⟨rfl, rfl⟩))
  go_quiet (fail)
  go_wp2_with (fail)
  go_region
  go_wp2_with (fail)
  go_region
  go_wp2_with (fail)
  refine (HG.out _ (by rw [HBB.out]; (repeat (first | (with_reducible refine ArAt.drew ?_) | (with_reducible refine ArAt.drewN ?_ _) | (with_reducible refine ArAt.alloc ?_ _))); exact HW.out _ (by (repeat (first | (with_reducible refine ArAt.drew ?_) | (with_reducible refine ArAt.drewN ?_ _) | (with_reducible refine ArAt.alloc ?_ _))); exact HAr.out))).mono ?_
  rintro e w2 ⟨rfl, hA2, o2⟩
  rw [HGF.out] at o2
  have o3 : Only (A.blk b) ((w.alloc (.cells #[.int .i64 0, .int .i64 0, .int .u8 0, .int .i64 0, .int .i64 0] 54)).alloc (.cells #[.int .i64 v0, .int .i64 v1, .int .u8 v2, .int .i64 v3, .int .i64 v4, .int .i64 r, .int .i64 a, .int .i64 f] 201)) w2 := Only.trans' (by repeat' (first | (with_reducible exact Only.refl _ _) | (with_reducible assumption) | (refine Only.of_none ?_; with_reducible assumption) | (with_reducible refine Only.drewN ?_ _) | (with_reducible refine Only.drew ?_) | (with_reducible refine Only.alloc ?_ _) | (with_reducible refine Only.setCell ?_ ?_ _) | (with_reducible refine Only.then0 ?_ (by with_reducible assumption)) | (with_reducible refine Only.thenN ?_ (by with_reducible assumption) ?_) | (with_reducible refine Only.trans ?_ (by with_reducible assumption)) | (refine .inl ?_; first | rfl | (simp; done) | (simp [Ar.blk]; done)) | (refine .inr ?_; first | omega | (simp; done) | (simp; omega) | exact Only.size (by with_reducible assumption) | (refine Nat.le_trans (Only.size (by with_reducible assumption)) ?_; simp; done)))) o2 (fun i _ h => h.elim .inl (fun h => .inr (.inr (.inr h))))
  have hgfw := HAr.out.gf_lt
  have d00 := o3.cell (b := w.heap.size + 1) (o := 0) (v := .int .i64 v0) (by simp [go_sem]) (by unfold Ar.blk; omega)
  have d01 := o3.cell (b := w.heap.size + 1) (o := 1) (v := .int .i64 v1) (by simp [go_sem]) (by unfold Ar.blk; omega)
  have d02 := o3.cell (b := w.heap.size + 1) (o := 2) (v := .int .u8 v2) (by simp [go_sem]) (by unfold Ar.blk; omega)
  have d03 := o3.cell (b := w.heap.size + 1) (o := 3) (v := .int .i64 v3) (by simp [go_sem]) (by unfold Ar.blk; omega)
  have d04 := o3.cell (b := w.heap.size + 1) (o := 4) (v := .int .i64 v4) (by simp [go_sem]) (by unfold Ar.blk; omega)
  have zb0 := ((Cell.new (w := w) (cs := #[.int .i64 0, .int .i64 0, .int .u8 0, .int .i64 0, .int .i64 0]) (t := 54) (o := 0) rfl).alloc _).only o3 (by show ¬ A.blk b w.heap.size; unfold Ar.blk; omega)
  have zc0 := zb0.cell
  have zf0 := zb0.free
  have zb1 := ((Cell.new (w := w) (cs := #[.int .i64 0, .int .i64 0, .int .u8 0, .int .i64 0, .int .i64 0]) (t := 54) (o := 1) rfl).alloc _).only o3 (by show ¬ A.blk b w.heap.size; unfold Ar.blk; omega)
  have zc1 := zb1.cell
  have zf1 := zb1.free
  have zb2 := ((Cell.new (w := w) (cs := #[.int .i64 0, .int .i64 0, .int .u8 0, .int .i64 0, .int .i64 0]) (t := 54) (o := 2) rfl).alloc _).only o3 (by show ¬ A.blk b w.heap.size; unfold Ar.blk; omega)
  have zc2 := zb2.cell
  have zf2 := zb2.free
  have zb3 := ((Cell.new (w := w) (cs := #[.int .i64 0, .int .i64 0, .int .u8 0, .int .i64 0, .int .i64 0]) (t := 54) (o := 3) rfl).alloc _).only o3 (by show ¬ A.blk b w.heap.size; unfold Ar.blk; omega)
  have zc3 := zb3.cell
  have zf3 := zb3.free
  have zb4 := ((Cell.new (w := w) (cs := #[.int .i64 0, .int .i64 0, .int .u8 0, .int .i64 0, .int .i64 0]) (t := 54) (o := 4) rfl).alloc _).only o3 (by show ¬ A.blk b w.heap.size; unfold Ar.blk; omega)
  have zc4 := zb4.cell
  have zf4 := zb4.free
  have rr0 : (((((w2.setCell ⟨w.heap.size, 0, none⟩ (.int .i64 v0)).setCell ⟨w.heap.size, 1, none⟩ (.int .i64 v1)).setCell ⟨w.heap.size, 2, none⟩ (.int .u8 v2)).setCell ⟨w.heap.size, 3, none⟩ (.int .i64 v3)).setCell ⟨w.heap.size, 4, none⟩ (.int .i64 v4)).cell? ⟨w.heap.size, 0, none⟩ = some (.int .i64 v0) := (show Cell (((((w2.setCell ⟨w.heap.size, 0, none⟩ (.int .i64 v0)).setCell ⟨w.heap.size, 1, none⟩ (.int .i64 v1)).setCell ⟨w.heap.size, 2, none⟩ (.int .u8 v2)).setCell ⟨w.heap.size, 3, none⟩ (.int .i64 v3)).setCell ⟨w.heap.size, 4, none⟩ (.int .i64 v4)) w.heap.size 0 (.int .i64 v0) from (((((zb0.set _).far (off_ne (by decide)) _).far (off_ne (by decide)) _).far (off_ne (by decide)) _).far (off_ne (by decide)) _)).cell
  have rr1 : (((((w2.setCell ⟨w.heap.size, 0, none⟩ (.int .i64 v0)).setCell ⟨w.heap.size, 1, none⟩ (.int .i64 v1)).setCell ⟨w.heap.size, 2, none⟩ (.int .u8 v2)).setCell ⟨w.heap.size, 3, none⟩ (.int .i64 v3)).setCell ⟨w.heap.size, 4, none⟩ (.int .i64 v4)).cell? ⟨w.heap.size, 1, none⟩ = some (.int .i64 v1) := (show Cell (((((w2.setCell ⟨w.heap.size, 0, none⟩ (.int .i64 v0)).setCell ⟨w.heap.size, 1, none⟩ (.int .i64 v1)).setCell ⟨w.heap.size, 2, none⟩ (.int .u8 v2)).setCell ⟨w.heap.size, 3, none⟩ (.int .i64 v3)).setCell ⟨w.heap.size, 4, none⟩ (.int .i64 v4)) w.heap.size 1 (.int .i64 v1) from (((((zb1.far (off_ne (by decide)) _).set _).far (off_ne (by decide)) _).far (off_ne (by decide)) _).far (off_ne (by decide)) _)).cell
  have rr2 : (((((w2.setCell ⟨w.heap.size, 0, none⟩ (.int .i64 v0)).setCell ⟨w.heap.size, 1, none⟩ (.int .i64 v1)).setCell ⟨w.heap.size, 2, none⟩ (.int .u8 v2)).setCell ⟨w.heap.size, 3, none⟩ (.int .i64 v3)).setCell ⟨w.heap.size, 4, none⟩ (.int .i64 v4)).cell? ⟨w.heap.size, 2, none⟩ = some (.int .u8 v2) := (show Cell (((((w2.setCell ⟨w.heap.size, 0, none⟩ (.int .i64 v0)).setCell ⟨w.heap.size, 1, none⟩ (.int .i64 v1)).setCell ⟨w.heap.size, 2, none⟩ (.int .u8 v2)).setCell ⟨w.heap.size, 3, none⟩ (.int .i64 v3)).setCell ⟨w.heap.size, 4, none⟩ (.int .i64 v4)) w.heap.size 2 (.int .u8 v2) from (((((zb2.far (off_ne (by decide)) _).far (off_ne (by decide)) _).set _).far (off_ne (by decide)) _).far (off_ne (by decide)) _)).cell
  have rr3 : (((((w2.setCell ⟨w.heap.size, 0, none⟩ (.int .i64 v0)).setCell ⟨w.heap.size, 1, none⟩ (.int .i64 v1)).setCell ⟨w.heap.size, 2, none⟩ (.int .u8 v2)).setCell ⟨w.heap.size, 3, none⟩ (.int .i64 v3)).setCell ⟨w.heap.size, 4, none⟩ (.int .i64 v4)).cell? ⟨w.heap.size, 3, none⟩ = some (.int .i64 v3) := (show Cell (((((w2.setCell ⟨w.heap.size, 0, none⟩ (.int .i64 v0)).setCell ⟨w.heap.size, 1, none⟩ (.int .i64 v1)).setCell ⟨w.heap.size, 2, none⟩ (.int .u8 v2)).setCell ⟨w.heap.size, 3, none⟩ (.int .i64 v3)).setCell ⟨w.heap.size, 4, none⟩ (.int .i64 v4)) w.heap.size 3 (.int .i64 v3) from (((((zb3.far (off_ne (by decide)) _).far (off_ne (by decide)) _).far (off_ne (by decide)) _).set _).far (off_ne (by decide)) _)).cell
  have rr4 : (((((w2.setCell ⟨w.heap.size, 0, none⟩ (.int .i64 v0)).setCell ⟨w.heap.size, 1, none⟩ (.int .i64 v1)).setCell ⟨w.heap.size, 2, none⟩ (.int .u8 v2)).setCell ⟨w.heap.size, 3, none⟩ (.int .i64 v3)).setCell ⟨w.heap.size, 4, none⟩ (.int .i64 v4)).cell? ⟨w.heap.size, 4, none⟩ = some (.int .i64 v4) := (show Cell (((((w2.setCell ⟨w.heap.size, 0, none⟩ (.int .i64 v0)).setCell ⟨w.heap.size, 1, none⟩ (.int .i64 v1)).setCell ⟨w.heap.size, 2, none⟩ (.int .u8 v2)).setCell ⟨w.heap.size, 3, none⟩ (.int .i64 v3)).setCell ⟨w.heap.size, 4, none⟩ (.int .i64 v4)) w.heap.size 4 (.int .i64 v4) from (((((zb4.far (off_ne (by decide)) _).far (off_ne (by decide)) _).far (off_ne (by decide)) _).far (off_ne (by decide)) _).set _)).cell
  have OZ := Lib.hid (show Only (· = w.heap.size) w2 (((((w2.setCell ⟨w.heap.size, 0, none⟩ (.int .i64 v0)).setCell ⟨w.heap.size, 1, none⟩ (.int .i64 v1)).setCell ⟨w.heap.size, 2, none⟩ (.int .u8 v2)).setCell ⟨w.heap.size, 3, none⟩ (.int .i64 v3)).setCell ⟨w.heap.size, 4, none⟩ (.int .i64 v4)) from (((((Only.refl (· = w.heap.size) w2).setCell (.inl rfl) _).setCell (.inl rfl) _).setCell (.inl rfl) _).setCell (.inl rfl) _).setCell (.inl rfl) _)
  have HA2 := Lib.hid hA2
  have O3 := Lib.hid o3
  clear hA2 o2 zb0 zb1 zb2 zb3 zb4 o3
  go_wp2
  refine bodyPost_ret (by simp [results, Try.results81, go_sem, rr0, rr1, rr2, rr3, rr4]; try rfl) rfl ?_
  refine ⟨rfl, by rw [HP.out]; exact ArAt.only HA2.out OZ.out (by show ¬ (b = w.heap.size); omega) (by rw [show (B.give n).gl = A.gl by rw [HBB.out]; rfl]; show ¬ (A.gl = w.heap.size); omega) (by rw [show (B.give n).gr = A.gr by rw [HBB.out]; rfl]; show ¬ (A.gr = w.heap.size); omega) (by rw [show (B.give n).gf = A.gf by rw [HBB.out]; rfl]; show ¬ (A.gf = w.heap.size); omega), ?_⟩
  exact ((((Only.refl _ w).alloc _).alloc _).trans O3.out).trans' OZ.out (fun i hi e => by omega)
end Od
end Go.Proofs.Ytilngakgofjmpaa

/- Slots: New, walked. No condition. -/
namespace Go.Proofs.Ytilngakgofjmpaa
set_option linter.unusedVariables false
set_option linter.unusedSimpArgs false
namespace Od
open Go.RowKit

--<shared>
theorem run_makeN {P : Program} (t e : TypeId) (i : TypeInfo) (z : Value) (ht : P.underlying t = some (.slice e)) (hi : P.info? e = some i) (hz : i.zero = some z) {s : Nat} (hs : i.size = s)
    (n : Nat) (hbytes : i.bytes * n ≤ 281474976710656) (h63 : n ≤ 9223372036854775807) (w : World) :
    (Instr.makeSlice t (.int .i64 (n : Int)) (.int .i64 (n : Int))).run P w = .ok (.slice (some ⟨w.heap.size, 0, none⟩) n n) (w.alloc (.cells (madeCells z.cells (n * s)) e)) := by
  have hb : (i.bytes : Int) * (n : Int) ≤ 281474976710656 := by
    have h : ((i.bytes * n : Nat) : Int) ≤ 281474976710656 := by omega
    rwa [Int.natCast_mul] at h
  have hr := run_make (P := P) w t e i z ht hi hz .i64 .i64 n n (by omega) (by omega) hb (by omega)
  simp only [Int.toNat_natCast, hs] at hr
  exact hr

theorem hp_new {w : World} {o : Obj} {k : Nat} (h : k = w.heap.size) : (w.alloc o).heap[k]? = some o := by subst h; exact heap_alloc_new w o
theorem hp_old {w : World} {x : Obj} {k : Nat} (h : w.heap[k]? = some x) (o : Obj) : (w.alloc o).heap[k]? = some x := (Below.heap_alloc w o k (Array.getElem?_eq_some_iff.1 h).1).trans h
theorem hp_drew {w : World} {x : Obj} {k : Nat} (h : w.heap[k]? = some x) : w.drew.heap[k]? = some x := h
theorem hp_drewN {w : World} {x : Obj} {k : Nat} (h : w.heap[k]? = some x) (n : Nat) : (w.drewN n).heap[k]? = some x := h

theorem made_at {z : Array Value} {s n i j : Nat} {v : Value} (hs : z.size = s) (hi : i < n) (hj : z[j]? = some v) : (madeCells z (n * s)).toList[i * s + j]? = some v := by
  have hjs : j < s := by rw [← hs]; exact (Array.getElem?_eq_some_iff.1 hj).1
  have hlt : i * s + j < n * s := by
    have : (i + 1) * s ≤ n * s := Nat.mul_le_mul_right _ hi
    rw [Nat.add_mul] at this; omega
  have hm : (i * s + j) % s = j := by rw [Nat.mul_comm, Nat.mul_add_mod]; exact Nat.mod_eq_of_lt hjs
  have e1 : z[(i * s + j) % z.size]! = v := by
    rw [hs, hm, getElem!_def, hj]
  simp only [madeCells, Array.toList_map, List.getElem?_map, Array.toList_range, List.getElem?_range hlt, Option.map_some, e1]

/-- A new arena. -/
def Ar.init (gl gr gf nr room : Nat) (z : Value) : Ar := ⟨gl, gr, gf, room, nr, room, fun _ => z, fun _ => -1, fun _ => 0, fun _ => 0, fun _ => -1, fun _ => -1, fun _ => 0, fun i => i⟩

--</shared>
theorem Try.infoLink : (Try.prog.info? 201).map (fun i => (i.zero, i.size, i.bytes)) = some (some (.agg #[.int .i64 0, .int .i64 0, .int .u8 0, .int .i64 0, .int .i64 0, .int .i64 0, .int .i64 0, .int .i64 0]), 8, 64) := by kernel_rfl
--<shared>
theorem Try.infoRow : (Try.prog.info? 203).map (fun i => (i.zero, i.size, i.bytes)) = some (some (.agg #[.int .i64 0, .int .i64 0, .int .i64 0]), 3, 24) := by kernel_rfl
--</shared>
def zLink : Array Value := #[.int .i64 0, .int .i64 0, .int .u8 0, .int .i64 0, .int .i64 0, .int .i64 0, .int .i64 0, .int .i64 0]
--<shared>
def zRow : Array Value := #[.int .i64 0, .int .i64 0, .int .i64 0]
def zInt : Array Value := #[.int .i64 0]
--</shared>

/-- What lies there behind the three makes. -/
structure Made (w : World) (b gl gr gf nr room : Nat) : Prop where
  hb : w.heap[b]? = some (.cells #[.slice (some ⟨gl, 0, none⟩) room room, .slice (some ⟨gr, 0, none⟩) nr nr, .slice (some ⟨gf, 0, none⟩) room room] 199 (0, 0))
  hl : w.heap[gl]? = some (.cells (madeCells zLink (room * 8)) 201 (0, 0))
  hr : w.heap[gr]? = some (.cells (madeCells zRow (nr * 3)) 203 (0, 0))
  hf : w.heap[gf]? = some (.cells (madeCells zInt room) 3 (0, 0))
  ne : b ≠ gl ∧ b ≠ gr ∧ b ≠ gf ∧ gl ≠ gr ∧ gl ≠ gf ∧ gr ≠ gf

theorem Made.at_ {w : World} {b gl gr gf nr room : Nat} (h : Made w b gl gr gf nr room) (h1 : room ≤ 65536) (h2 : nr ≤ 65536) :
    ArAt w b ⟨gl, gr, gf, room, nr, room, fun _ => .agg #[.int .i64 0, .int .i64 0, .int .u8 0, .int .i64 0, .int .i64 0], fun _ => 0, fun _ => 0, fun _ => 0, fun _ => 0, fun _ => 0, fun _ => 0, fun _ => 0⟩ := by
  have hl := h.hl
  have hr := h.hr
  rw [show madeCells zLink (room * 8) = (madeCells zLink (room * 8)).toList.toArray by simp] at hl
  rw [show madeCells zRow (nr * 3) = (madeCells zRow (nr * 3)).toList.toArray by simp] at hr
  refine ⟨cell_of_blk (cs := [_, _, _]) h.hb rfl, cell_of_blk (cs := [_, _, _]) h.hb rfl, cell_of_blk (cs := [_, _, _]) h.hb rfl,
    fun i hi c u hu => cell_of_blk hl (made_at (s := 8) (j := c) rfl hi (by match c, hu with | 0, hu => exact hu | 1, hu => exact hu | 2, hu => exact hu | 3, hu => exact hu | 4, hu => exact hu | c + 5, hu => simp [Value.cells] at hu)), fun i hi => cell_of_blk hl (made_at (s := 8) (j := 5) rfl hi rfl), fun i hi => cell_of_blk hl (made_at (s := 8) (j := 6) rfl hi rfl), fun i hi => cell_of_blk hl (made_at (s := 8) (j := 7) rfl hi rfl),
    fun i hi => cell_of_blk hr (made_at (s := 3) (j := 0) rfl hi rfl), fun i hi => cell_of_blk hr (made_at (s := 3) (j := 1) rfl hi rfl), fun i hi => cell_of_blk hr (made_at (s := 3) (j := 2) rfl hi rfl), ?_,
    ⟨(Array.getElem?_eq_some_iff.1 h.hl).1, (Array.getElem?_eq_some_iff.1 h.hr).1⟩, h.ne.1, h.ne.2.1, h.ne.2.2.1, h.ne.2.2.2.1, h.ne.2.2.2.2.1, h.ne.2.2.2.2.2, ⟨h1, h2, Nat.le_refl _⟩, fun _ _ => rfl⟩
  have hf := h.hf
  rw [show madeCells zInt room = (madeCells zInt room).toList.toArray by simp, show zInt = #[Value.int .i64 0] from rfl, toList_madeCells_one] at hf
  rw [hf]
  congr 3
  apply List.ext_getElem?
  intro k
  by_cases hk : k < room <;> simp [freeV, hk]

--<shared>
/-- What lies beyond the room does not matter. -/
theorem ArAt.congr {w : World} {b gl gr gf room nr nf : Nat} {th : Nat → Value} {ro ro' ah fa rf rf' rl rl' rn fr fr' : Nat → Int} (h : ArAt w b ⟨gl, gr, gf, room, nr, nf, th, ro, ah, fa, rf, rl, rn, fr⟩)
    (h1 : ∀ i, i < room → ro i = ro' i) (h2 : ∀ i, i < nr → rf i = rf' i) (h3 : ∀ i, i < nr → rl i = rl' i) (h4 : ∀ i, i < room → fr i = fr' i) : ArAt w b ⟨gl, gr, gf, room, nr, nf, th, ro', ah, fa, rf', rl', rn, fr'⟩ := by
  refine ⟨h.c0, h.c1, h.c2, h.l0, fun i hi => by have := h.l1 i hi; simp only at this ⊢; rwa [h1 i hi] at this, h.l2, h.l3, fun i hi => by have := h.r0 i hi; simp only at this ⊢; rwa [h2 i hi] at this, fun i hi => by have := h.r1 i hi; simp only at this ⊢; rwa [h3 i hi] at this, h.r2, ?_, h.lr, h.n1, h.n2, h.n3, h.n4, h.n5, h.n6, h.small, h.tc⟩
  have := h.f
  simp only [freeV] at this ⊢
  rw [this]
  congr 3
  apply List.map_congr_left
  intro i hi
  rw [h4 i (by simpa using hi)]
--</shared>

set_option maxHeartbeats 4000000 in
set_option maxRecDepth 100000 in
theorem s_new_no (w : World) (rows room : Int) (h : rows < 1 ∨ rows > 65536 ∨ room < 0 ∨ room > 65536) :
    Calls Try.prog 74 #[.int .i64 rows, .int .i64 room] w fun e w' => e = .returned (.tuple #[.pointer none, .int .i64 1]) ∧ Only (fun _ => False) w w' := by
  by_cases h1 : rows < 1
  · clear h
    go_enter Try.func74, Try.ntmps74
    go_wp2
    go_returns
    exact ⟨rfl, by repeat' (first | (with_reducible exact Only.refl _ _) | (with_reducible assumption) | (refine Only.of_none ?_; with_reducible assumption) | (with_reducible refine Only.drewN ?_ _) | (with_reducible refine Only.drew ?_) | (with_reducible refine Only.alloc ?_ _) | (with_reducible refine Only.setCell ?_ ?_ _) | (with_reducible refine Only.then0 ?_ (by with_reducible assumption)) | (with_reducible refine Only.thenN ?_ (by with_reducible assumption) ?_) | (with_reducible refine Only.trans ?_ (by with_reducible assumption)) | (refine .inl ?_; first | rfl | (simp; done) | (simp [Ar.blk]; done)) | (refine .inr ?_; first | omega | (simp; done) | (simp; omega) | exact Only.size (by with_reducible assumption) | (refine Nat.le_trans (Only.size (by with_reducible assumption)) ?_; simp; done)))⟩
  · have e1 : decide (rows < 1) = false := by simpa using h1
    by_cases h2 : rows > 65536
    · clear h
      go_enter Try.func74, Try.ntmps74
      go_wp2
      go_returns
      exact ⟨rfl, by repeat' (first | (with_reducible exact Only.refl _ _) | (with_reducible assumption) | (refine Only.of_none ?_; with_reducible assumption) | (with_reducible refine Only.drewN ?_ _) | (with_reducible refine Only.drew ?_) | (with_reducible refine Only.alloc ?_ _) | (with_reducible refine Only.setCell ?_ ?_ _) | (with_reducible refine Only.then0 ?_ (by with_reducible assumption)) | (with_reducible refine Only.thenN ?_ (by with_reducible assumption) ?_) | (with_reducible refine Only.trans ?_ (by with_reducible assumption)) | (refine .inl ?_; first | rfl | (simp; done) | (simp [Ar.blk]; done)) | (refine .inr ?_; first | omega | (simp; done) | (simp; omega) | exact Only.size (by with_reducible assumption) | (refine Nat.le_trans (Only.size (by with_reducible assumption)) ?_; simp; done)))⟩
    · have e2 : decide (65536 < rows) = false := by simp; omega
      by_cases h3 : room < 0
      · clear h
        go_enter Try.func74, Try.ntmps74
        go_wp2
        go_returns
        exact ⟨rfl, by repeat' (first | (with_reducible exact Only.refl _ _) | (with_reducible assumption) | (refine Only.of_none ?_; with_reducible assumption) | (with_reducible refine Only.drewN ?_ _) | (with_reducible refine Only.drew ?_) | (with_reducible refine Only.alloc ?_ _) | (with_reducible refine Only.setCell ?_ ?_ _) | (with_reducible refine Only.then0 ?_ (by with_reducible assumption)) | (with_reducible refine Only.thenN ?_ (by with_reducible assumption) ?_) | (with_reducible refine Only.trans ?_ (by with_reducible assumption)) | (refine .inl ?_; first | rfl | (simp; done) | (simp [Ar.blk]; done)) | (refine .inr ?_; first | omega | (simp; done) | (simp; omega) | exact Only.size (by with_reducible assumption) | (refine Nat.le_trans (Only.size (by with_reducible assumption)) ?_; simp; done)))⟩
      · have e3 : decide (room < 0) = false := by simpa using h3
        have h4 : 65536 < room := by omega
        clear h
        go_enter Try.func74, Try.ntmps74
        go_wp2
        go_returns
        exact ⟨rfl, by repeat' (first | (with_reducible exact Only.refl _ _) | (with_reducible assumption) | (refine Only.of_none ?_; with_reducible assumption) | (with_reducible refine Only.drewN ?_ _) | (with_reducible refine Only.drew ?_) | (with_reducible refine Only.alloc ?_ _) | (with_reducible refine Only.setCell ?_ ?_ _) | (with_reducible refine Only.then0 ?_ (by with_reducible assumption)) | (with_reducible refine Only.thenN ?_ (by with_reducible assumption) ?_) | (with_reducible refine Only.trans ?_ (by with_reducible assumption)) | (refine .inl ?_; first | rfl | (simp; done) | (simp [Ar.blk]; done)) | (refine .inr ?_; first | omega | (simp; done) | (simp; omega) | exact Only.size (by with_reducible assumption) | (refine Nat.le_trans (Only.size (by with_reducible assumption)) ?_; simp; done)))⟩

def NewPost (w : World) (nr room : Nat) (e : Ending) (w' : World) : Prop :=
  ∃ b gl gr gf, e = .returned (.tuple #[.pointer (some ⟨b, 0, none⟩), .int .i64 0]) ∧ ArAt w' b (Ar.init gl gr gf nr room (.agg #[.int .i64 0, .int .i64 0, .int .u8 0, .int .i64 0, .int .i64 0])) ∧ Only (fun _ => False) w w' ∧ w.heap.size ≤ b ∧ w.heap.size ≤ gl ∧ w.heap.size ≤ gr ∧ w.heap.size ≤ gf

set_option maxHeartbeats 4000000 in
set_option maxRecDepth 100000 in
theorem s_new (w : World) (nr room : Nat) (h1 : 1 ≤ nr) (h2 : nr ≤ 65536) (h3 : room ≤ 65536) :
    Calls Try.prog 74 #[.int .i64 nr, .int .i64 room] w (NewPost w nr room) := by
  obtain ⟨i1, hi1, hz1, hs1, hb1⟩ := info_parts Try.infoLink
  obtain ⟨i2, hi2, hz2, hs2, hb2⟩ := info_parts Try.infoRow
  obtain ⟨i3, hi3, hz3, hs3, hb3⟩ := info_parts Try.infoInt
  have m1 := fun W => run_makeN (P := Try.prog) 195 201 i1 _ Try.underlying195 hi1 hz1 hs1 room (by rw [hb1]; omega) (by omega) W
  have m2 := fun W => run_makeN (P := Try.prog) 196 203 i2 _ Try.underlying196 hi2 hz2 hs2 nr (by rw [hb2]; omega) (by omega) W
  have m3 := fun W => run_makeN (P := Try.prog) 197 3 i3 _ Try.underlying197 hi3 hz3 hs3 room (by rw [hb3]; omega) (by omega) W
  change ∀ W : World, _ = Result.ok _ (W.alloc (.cells (madeCells zLink (room * 8)) _)) at m1
  change ∀ W : World, _ = Result.ok _ (W.alloc (.cells (madeCells zRow (nr * 3)) _)) at m2
  change ∀ W : World, _ = Result.ok _ (W.alloc (.cells (madeCells zInt (room * 1)) _)) at m3
  clear hi1 hz1 hs1 hb1 hi2 hz2 hs2 hb2 hi3 hz3 hs3 hb3
  have e1 : decide ((nr : Int) < 1) = false := by simp; omega
  have e2 : decide (65536 < (nr : Int)) = false := by simp; omega
  have e3 : decide ((room : Int) < 0) = false := by simp
  have e4 : decide (65536 < (room : Int)) = false := by simp; omega
  go_enter Try.func74, Try.ntmps74
  go_upto_region 3 with fail
  go_cut [6] (fun s6 wc => ∃ b gl gr gf, s6 = .pointer (some ⟨b, 0, none⟩) ∧ Made wc b gl gr gf nr room ∧ Only (fun _ => False) w wc ∧ w.heap.size ≤ b ∧ w.heap.size ≤ gl ∧ w.heap.size ≤ gr ∧ w.heap.size ≤ gf)
  case first =>
    go_region
    all_goals
      go_wp2_with fail
      go_meet
      first
        | (refine ⟨_, w.heap.size, (w.heap.size + 1), (w.heap.size + 1 + 1), rfl, ⟨?_, ?_, ?_, ?_, ?_⟩, ?_, ?_, ?_, ?_, ?_⟩; (repeat (first | exact hp_new (by simp; done) | (with_reducible refine hp_drew ?_) | (with_reducible refine hp_drewN ?_ _) | (with_reducible refine hp_old ?_ _))); (repeat (first | exact hp_new (by simp; done) | (with_reducible refine hp_drew ?_) | (with_reducible refine hp_drewN ?_ _) | (with_reducible refine hp_old ?_ _))); (repeat (first | exact hp_new (by simp; done) | (with_reducible refine hp_drew ?_) | (with_reducible refine hp_drewN ?_ _) | (with_reducible refine hp_old ?_ _))); (repeat (first | exact hp_new (by simp; done) | (with_reducible refine hp_drew ?_) | (with_reducible refine hp_drewN ?_ _) | (with_reducible refine hp_old ?_ _))); omega; (repeat' (first | (with_reducible exact Only.refl _ _) | (with_reducible assumption) | (refine Only.of_none ?_; with_reducible assumption) | (with_reducible refine Only.drewN ?_ _) | (with_reducible refine Only.drew ?_) | (with_reducible refine Only.alloc ?_ _) | (with_reducible refine Only.setCell ?_ ?_ _) | (with_reducible refine Only.then0 ?_ (by with_reducible assumption)) | (with_reducible refine Only.thenN ?_ (by with_reducible assumption) ?_) | (with_reducible refine Only.trans ?_ (by with_reducible assumption)) | (refine .inl ?_; first | rfl | (simp; done) | (simp [Ar.blk]; done)) | (refine .inr ?_; first | omega | (simp; done) | (simp; omega) | exact Only.size (by with_reducible assumption) | (refine Nat.le_trans (Only.size (by with_reducible assumption)) ?_; simp; done)))); all_goals (first | omega | (simp; done) | (simp; omega)); done)
        | (refine ⟨_, w.heap.size, (w.heap.size + 1 + 1), (w.heap.size + 1), rfl, ⟨?_, ?_, ?_, ?_, ?_⟩, ?_, ?_, ?_, ?_, ?_⟩; (repeat (first | exact hp_new (by simp; done) | (with_reducible refine hp_drew ?_) | (with_reducible refine hp_drewN ?_ _) | (with_reducible refine hp_old ?_ _))); (repeat (first | exact hp_new (by simp; done) | (with_reducible refine hp_drew ?_) | (with_reducible refine hp_drewN ?_ _) | (with_reducible refine hp_old ?_ _))); (repeat (first | exact hp_new (by simp; done) | (with_reducible refine hp_drew ?_) | (with_reducible refine hp_drewN ?_ _) | (with_reducible refine hp_old ?_ _))); (repeat (first | exact hp_new (by simp; done) | (with_reducible refine hp_drew ?_) | (with_reducible refine hp_drewN ?_ _) | (with_reducible refine hp_old ?_ _))); omega; (repeat' (first | (with_reducible exact Only.refl _ _) | (with_reducible assumption) | (refine Only.of_none ?_; with_reducible assumption) | (with_reducible refine Only.drewN ?_ _) | (with_reducible refine Only.drew ?_) | (with_reducible refine Only.alloc ?_ _) | (with_reducible refine Only.setCell ?_ ?_ _) | (with_reducible refine Only.then0 ?_ (by with_reducible assumption)) | (with_reducible refine Only.thenN ?_ (by with_reducible assumption) ?_) | (with_reducible refine Only.trans ?_ (by with_reducible assumption)) | (refine .inl ?_; first | rfl | (simp; done) | (simp [Ar.blk]; done)) | (refine .inr ?_; first | omega | (simp; done) | (simp; omega) | exact Only.size (by with_reducible assumption) | (refine Nat.le_trans (Only.size (by with_reducible assumption)) ?_; simp; done)))); all_goals (first | omega | (simp; done) | (simp; omega)); done)
        | (refine ⟨_, (w.heap.size + 1), w.heap.size, (w.heap.size + 1 + 1), rfl, ⟨?_, ?_, ?_, ?_, ?_⟩, ?_, ?_, ?_, ?_, ?_⟩; (repeat (first | exact hp_new (by simp; done) | (with_reducible refine hp_drew ?_) | (with_reducible refine hp_drewN ?_ _) | (with_reducible refine hp_old ?_ _))); (repeat (first | exact hp_new (by simp; done) | (with_reducible refine hp_drew ?_) | (with_reducible refine hp_drewN ?_ _) | (with_reducible refine hp_old ?_ _))); (repeat (first | exact hp_new (by simp; done) | (with_reducible refine hp_drew ?_) | (with_reducible refine hp_drewN ?_ _) | (with_reducible refine hp_old ?_ _))); (repeat (first | exact hp_new (by simp; done) | (with_reducible refine hp_drew ?_) | (with_reducible refine hp_drewN ?_ _) | (with_reducible refine hp_old ?_ _))); omega; (repeat' (first | (with_reducible exact Only.refl _ _) | (with_reducible assumption) | (refine Only.of_none ?_; with_reducible assumption) | (with_reducible refine Only.drewN ?_ _) | (with_reducible refine Only.drew ?_) | (with_reducible refine Only.alloc ?_ _) | (with_reducible refine Only.setCell ?_ ?_ _) | (with_reducible refine Only.then0 ?_ (by with_reducible assumption)) | (with_reducible refine Only.thenN ?_ (by with_reducible assumption) ?_) | (with_reducible refine Only.trans ?_ (by with_reducible assumption)) | (refine .inl ?_; first | rfl | (simp; done) | (simp [Ar.blk]; done)) | (refine .inr ?_; first | omega | (simp; done) | (simp; omega) | exact Only.size (by with_reducible assumption) | (refine Nat.le_trans (Only.size (by with_reducible assumption)) ?_; simp; done)))); all_goals (first | omega | (simp; done) | (simp; omega)); done)
        | (refine ⟨_, (w.heap.size + 1), (w.heap.size + 1 + 1), w.heap.size, rfl, ⟨?_, ?_, ?_, ?_, ?_⟩, ?_, ?_, ?_, ?_, ?_⟩; (repeat (first | exact hp_new (by simp; done) | (with_reducible refine hp_drew ?_) | (with_reducible refine hp_drewN ?_ _) | (with_reducible refine hp_old ?_ _))); (repeat (first | exact hp_new (by simp; done) | (with_reducible refine hp_drew ?_) | (with_reducible refine hp_drewN ?_ _) | (with_reducible refine hp_old ?_ _))); (repeat (first | exact hp_new (by simp; done) | (with_reducible refine hp_drew ?_) | (with_reducible refine hp_drewN ?_ _) | (with_reducible refine hp_old ?_ _))); (repeat (first | exact hp_new (by simp; done) | (with_reducible refine hp_drew ?_) | (with_reducible refine hp_drewN ?_ _) | (with_reducible refine hp_old ?_ _))); omega; (repeat' (first | (with_reducible exact Only.refl _ _) | (with_reducible assumption) | (refine Only.of_none ?_; with_reducible assumption) | (with_reducible refine Only.drewN ?_ _) | (with_reducible refine Only.drew ?_) | (with_reducible refine Only.alloc ?_ _) | (with_reducible refine Only.setCell ?_ ?_ _) | (with_reducible refine Only.then0 ?_ (by with_reducible assumption)) | (with_reducible refine Only.thenN ?_ (by with_reducible assumption) ?_) | (with_reducible refine Only.trans ?_ (by with_reducible assumption)) | (refine .inl ?_; first | rfl | (simp; done) | (simp [Ar.blk]; done)) | (refine .inr ?_; first | omega | (simp; done) | (simp; omega) | exact Only.size (by with_reducible assumption) | (refine Nat.le_trans (Only.size (by with_reducible assumption)) ?_; simp; done)))); all_goals (first | omega | (simp; done) | (simp; omega)); done)
        | (refine ⟨_, (w.heap.size + 1 + 1), w.heap.size, (w.heap.size + 1), rfl, ⟨?_, ?_, ?_, ?_, ?_⟩, ?_, ?_, ?_, ?_, ?_⟩; (repeat (first | exact hp_new (by simp; done) | (with_reducible refine hp_drew ?_) | (with_reducible refine hp_drewN ?_ _) | (with_reducible refine hp_old ?_ _))); (repeat (first | exact hp_new (by simp; done) | (with_reducible refine hp_drew ?_) | (with_reducible refine hp_drewN ?_ _) | (with_reducible refine hp_old ?_ _))); (repeat (first | exact hp_new (by simp; done) | (with_reducible refine hp_drew ?_) | (with_reducible refine hp_drewN ?_ _) | (with_reducible refine hp_old ?_ _))); (repeat (first | exact hp_new (by simp; done) | (with_reducible refine hp_drew ?_) | (with_reducible refine hp_drewN ?_ _) | (with_reducible refine hp_old ?_ _))); omega; (repeat' (first | (with_reducible exact Only.refl _ _) | (with_reducible assumption) | (refine Only.of_none ?_; with_reducible assumption) | (with_reducible refine Only.drewN ?_ _) | (with_reducible refine Only.drew ?_) | (with_reducible refine Only.alloc ?_ _) | (with_reducible refine Only.setCell ?_ ?_ _) | (with_reducible refine Only.then0 ?_ (by with_reducible assumption)) | (with_reducible refine Only.thenN ?_ (by with_reducible assumption) ?_) | (with_reducible refine Only.trans ?_ (by with_reducible assumption)) | (refine .inl ?_; first | rfl | (simp; done) | (simp [Ar.blk]; done)) | (refine .inr ?_; first | omega | (simp; done) | (simp; omega) | exact Only.size (by with_reducible assumption) | (refine Nat.le_trans (Only.size (by with_reducible assumption)) ?_; simp; done)))); all_goals (first | omega | (simp; done) | (simp; omega)); done)
        | (refine ⟨_, (w.heap.size + 1 + 1), (w.heap.size + 1), w.heap.size, rfl, ⟨?_, ?_, ?_, ?_, ?_⟩, ?_, ?_, ?_, ?_, ?_⟩; (repeat (first | exact hp_new (by simp; done) | (with_reducible refine hp_drew ?_) | (with_reducible refine hp_drewN ?_ _) | (with_reducible refine hp_old ?_ _))); (repeat (first | exact hp_new (by simp; done) | (with_reducible refine hp_drew ?_) | (with_reducible refine hp_drewN ?_ _) | (with_reducible refine hp_old ?_ _))); (repeat (first | exact hp_new (by simp; done) | (with_reducible refine hp_drew ?_) | (with_reducible refine hp_drewN ?_ _) | (with_reducible refine hp_old ?_ _))); (repeat (first | exact hp_new (by simp; done) | (with_reducible refine hp_drew ?_) | (with_reducible refine hp_drewN ?_ _) | (with_reducible refine hp_old ?_ _))); omega; (repeat' (first | (with_reducible exact Only.refl _ _) | (with_reducible assumption) | (refine Only.of_none ?_; with_reducible assumption) | (with_reducible refine Only.drewN ?_ _) | (with_reducible refine Only.drew ?_) | (with_reducible refine Only.alloc ?_ _) | (with_reducible refine Only.setCell ?_ ?_ _) | (with_reducible refine Only.then0 ?_ (by with_reducible assumption)) | (with_reducible refine Only.thenN ?_ (by with_reducible assumption) ?_) | (with_reducible refine Only.trans ?_ (by with_reducible assumption)) | (refine .inl ?_; first | rfl | (simp; done) | (simp [Ar.blk]; done)) | (refine .inr ?_; first | omega | (simp; done) | (simp; omega) | exact Only.size (by with_reducible assumption) | (refine Nat.le_trans (Only.size (by with_reducible assumption)) ?_; simp; done)))); all_goals (first | omega | (simp; done) | (simp; omega)); done)
  case rest =>
    obtain ⟨b, gl, gr, gf, rfl, hM, ho, g1, g2, g3, g4⟩ := hcut
    have hA := hM.at_ h3 h2
    have hne := hM.ne
    clear m1 m2 m3 hM
    have c0 := hA.c0.cell
    simp only at c0
    go_wp2
    go_loopw [36] (fun i wr => ∃ (k : Nat), i = .int .i64 k ∧ k ≤ room ∧ ArAt wr b ⟨gl, gr, gf, room, nr, room, fun _ => .agg #[.int .i64 0, .int .i64 0, .int .u8 0, .int .i64 0, .int .i64 0], fun i => if i < k then -1 else 0, fun _ => 0, fun _ => 0, fun _ => 0, fun _ => 0, fun _ => 0, fun i => if i < k then i else 0⟩ ∧ Only (fun _ => False) w wr)
      (fun i _ => room - (intOf i).toNat)
    case atStart => exact ⟨0, rfl, by omega, by simpa using hA, ho⟩
    case round =>
      obtain ⟨k, rfl, hk, hA1, ho1⟩ := hrel
      clear hA c0 ho
      have c0 := hA1.c0.cell
      have c1 := hA1.c1.cell
      have c2 := hA1.c2.cell
      have hbw := hA1.c0.lt
      have hlw := hA1.lr.1
      have hfw := hA1.gf_lt
      simp only at c0 c1 c2 hlw hfw
      by_cases hlt : k < room
      · obtain ⟨t1, u1⟩ := hA1.l1 k hlt
        obtain ⟨t2, u2⟩ := hA1.fc (i := k) hlt
        simp only at t1 u1 t2 u2
        have HW := Lib.hid (fun W (hW : ArAt W b ⟨gl, gr, gf, room, nr, room, fun _ => .agg #[.int .i64 0, .int .i64 0, .int .u8 0, .int .i64 0, .int .i64 0], fun i => if i < k then -1 else 0, fun _ => 0, fun _ => 0, fun _ => 0, fun _ => 0, fun _ => 0, fun i => if i < k then i else 0⟩) => (hW.set_ro (i := k) hlt (-1)).setf (i := k) hlt k)
        have HA1 := Lib.hid hA1
        clear hA1
        have n1 := hne.1
        have n3 := hne.2.2.1
        have n5 := hne.2.2.2.2.1
        go_wp2
        go_region
        go_wp2
        go_roundw
        case rel =>
          refine ⟨k + 1, by go_num, by omega, ?_, by repeat' (first | (with_reducible exact Only.refl _ _) | (with_reducible assumption) | (refine Only.of_none ?_; with_reducible assumption) | (with_reducible refine Only.drewN ?_ _) | (with_reducible refine Only.drew ?_) | (with_reducible refine Only.alloc ?_ _) | (with_reducible refine Only.setCell ?_ ?_ _) | (with_reducible refine Only.then0 ?_ (by with_reducible assumption)) | (with_reducible refine Only.thenN ?_ (by with_reducible assumption) ?_) | (with_reducible refine Only.trans ?_ (by with_reducible assumption)) | (refine .inl ?_; first | rfl | (simp; done) | (simp [Ar.blk]; done)) | (refine .inr ?_; first | omega | (simp; done) | (simp; omega) | exact Only.size (by with_reducible assumption) | (refine Nat.le_trans (Only.size (by with_reducible assumption)) ?_; simp; done)))⟩
          (repeat (first | (with_reducible refine ArAt.drew ?_) | (with_reducible refine ArAt.drewN ?_ _) | (with_reducible refine ArAt.alloc ?_ _)));
          have h5 := (HW.out _ (by (repeat (first | (with_reducible refine ArAt.drew ?_) | (with_reducible refine ArAt.drewN ?_ _) | (with_reducible refine ArAt.alloc ?_ _))); exact HA1.out))
          have e1 : upd (fun i : Nat => if i < k then (-1 : Int) else 0) k (-1) = fun i => if i < k + 1 then -1 else 0 := by
            funext i; simp only [upd]; by_cases h1 : i = k
            · subst h1; simp
            · rw [if_neg h1]; by_cases h2 : i < k
              · rw [if_pos h2, if_pos (by omega)]
              · rw [if_neg h2, if_neg (by omega)]
          have e2 : upd (fun i : Nat => if i < k then (i : Int) else 0) k k = fun i => if i < k + 1 then (i : Int) else 0 := by
            funext i; simp only [upd]; by_cases h1 : i = k
            · subst h1; simp
            · rw [if_neg h1]; by_cases h2 : i < k
              · rw [if_pos h2, if_pos (by omega)]
              · rw [if_neg h2, if_neg (by omega)]
          simp only [e1, e2] at h5
          exact h5
        case measure => simp [intOf]; omega
      · have hkr : k = room := by omega
        subst hkr
        obtain ⟨F, hF⟩ : ∃ F : Nat → Int, F = fun i => if i < k then (i : Int) else 0 := ⟨_, rfl⟩
        obtain ⟨R, hR⟩ : ∃ R : Nat → Int, R = fun i => if i < k then -1 else 0 := ⟨_, rfl⟩
        rw [← hF, ← hR] at hA1
        have HF := Lib.hid hF
        have HR := Lib.hid hR
        have HA1 := Lib.hid hA1
        clear hF hR hA1
        go_wp2
        go_loopw [59] (fun i wr => ∃ (j : Nat), i = .int .i64 j ∧ j ≤ nr ∧ ArAt wr b ⟨gl, gr, gf, k, nr, k, fun _ => .agg #[.int .i64 0, .int .i64 0, .int .u8 0, .int .i64 0, .int .i64 0], R, fun _ => 0, fun _ => 0, fun i => if i < j then -1 else 0, fun i => if i < j then -1 else 0, fun _ => 0, F⟩ ∧ Only (fun _ => False) w wr)
          (fun i _ => nr - (intOf i).toNat)
        case atStart => exact ⟨0, rfl, by omega, by simpa using HA1.out, ho1⟩
        case round =>
          obtain ⟨j, rfl, hj, hA2, ho2⟩ := hrel
          have d1 := hA2.c1.cell
          have hbw2 := hA2.c1.lt
          have hgw2 := hA2.lr.2
          simp only at d1 hgw2
          by_cases hlt2 : j < nr
          · obtain ⟨q0, p0⟩ := hA2.r0 j hlt2
            obtain ⟨q1, p1⟩ := hA2.r1 j hlt2
            obtain ⟨q2, p2⟩ := hA2.r2 j hlt2
            simp only at q0 q1 q2 p0 p1 p2
            have HW := Lib.hid (((hA2.set_rf (i := j) hlt2 (-1)).set_rl (i := j) hlt2 (-1)).set_rn (i := j) hlt2 0)
            clear hA2
            go_wp2
            go_roundw
            case rel =>
              refine ⟨j + 1, by go_num, by omega, ?_, by repeat' (first | (with_reducible exact Only.refl _ _) | (with_reducible assumption) | (refine Only.of_none ?_; with_reducible assumption) | (with_reducible refine Only.drewN ?_ _) | (with_reducible refine Only.drew ?_) | (with_reducible refine Only.alloc ?_ _) | (with_reducible refine Only.setCell ?_ ?_ _) | (with_reducible refine Only.then0 ?_ (by with_reducible assumption)) | (with_reducible refine Only.thenN ?_ (by with_reducible assumption) ?_) | (with_reducible refine Only.trans ?_ (by with_reducible assumption)) | (refine .inl ?_; first | rfl | (simp; done) | (simp [Ar.blk]; done)) | (refine .inr ?_; first | omega | (simp; done) | (simp; omega) | exact Only.size (by with_reducible assumption) | (refine Nat.le_trans (Only.size (by with_reducible assumption)) ?_; simp; done)))⟩
              (repeat (first | (with_reducible refine ArAt.drew ?_) | (with_reducible refine ArAt.drewN ?_ _) | (with_reducible refine ArAt.alloc ?_ _)));
              have h5 := HW.out
              have e1 : upd (fun i : Nat => if i < j then (-1 : Int) else 0) j (-1) = fun i => if i < j + 1 then -1 else 0 := by
                funext i; simp only [upd]; by_cases h1 : i = j
                · subst h1; simp
                · rw [if_neg h1]; by_cases h2 : i < j
                  · rw [if_pos h2, if_pos (by omega)]
                  · rw [if_neg h2, if_neg (by omega)]
              have e2 : upd (fun _ : Nat => (0 : Int)) j 0 = fun _ => 0 := by
                funext i; simp only [upd]; split <;> rfl
              simp only [e1, e2] at h5
              exact h5
            case measure => simp [intOf]; omega
          · have hjr : j = nr := by omega
            have HA2 := Lib.hid hA2
            clear hA2
            go_wp2
            go_returns
            refine ⟨b, gl, gr, gf, rfl, ?_, by repeat' (first | (with_reducible exact Only.refl _ _) | (with_reducible assumption) | (refine Only.of_none ?_; with_reducible assumption) | (with_reducible refine Only.drewN ?_ _) | (with_reducible refine Only.drew ?_) | (with_reducible refine Only.alloc ?_ _) | (with_reducible refine Only.setCell ?_ ?_ _) | (with_reducible refine Only.then0 ?_ (by with_reducible assumption)) | (with_reducible refine Only.thenN ?_ (by with_reducible assumption) ?_) | (with_reducible refine Only.trans ?_ (by with_reducible assumption)) | (refine .inl ?_; first | rfl | (simp; done) | (simp [Ar.blk]; done)) | (refine .inr ?_; first | omega | (simp; done) | (simp; omega) | exact Only.size (by with_reducible assumption) | (refine Nat.le_trans (Only.size (by with_reducible assumption)) ?_; simp; done))), g1, g2, g3, g4⟩
            (repeat (first | (with_reducible refine ArAt.drew ?_) | (with_reducible refine ArAt.drewN ?_ _) | (with_reducible refine ArAt.alloc ?_ _)));
            have h5 := HA2.out
            rw [HF.out, HR.out, hjr] at h5
            exact h5.congr (fun i hi => by simp [Ar.init, hi]) (fun i hi => by simp [Ar.init, hi]) (fun i hi => by simp [Ar.init, hi]) (fun i hi => by simp [Ar.init, hi])
end Od
end Go.Proofs.Ytilngakgofjmpaa
