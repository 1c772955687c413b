/- The contracts of package quota: what each call does to a meter in memory. Conditions: the meter's numbers lie in their ranges. -/
import Derived.Test.YtiiflgihjnlmcaaRows
import Derived.Test.YtiiflgihjnlmcaaKit
namespace Go.Proofs.Ytiiflgihjnlmcaa
set_option linter.unusedVariables false
set_option linter.unusedSimpArgs false
open Go.RowKit

/-- A meter: clients, strategies, actions, the window, the time; what each client has. -/
structure Mt where
  cl : Int
  st : Int
  ac : Int
  win : Int
  now : Int
  us : Nat → Int × Int × Int

structure MtAt (w : World) (b : Nat) (m : Mt) : Prop where
  c0 : Cell w b 0 (.int .i64 m.cl)
  c11 : Cell w b 11 (.int .i64 m.st)
  c13 : Cell w b 13 (.int .i64 m.ac)
  c14 : Cell w b 14 (.int .i64 m.win)
  c15 : Cell w b 15 (.int .i64 m.now)
  u0 : ∀ k, k < 9 → Cell w b (16 + k * 3) (.int .i64 (m.us k).1)
  u1 : ∀ k, k < 9 → Cell w b (16 + k * 3 + 1) (.int .i64 (m.us k).2.1)
  u2 : ∀ k, k < 9 → Cell w b (16 + k * 3 + 2) (.int .i64 (m.us k).2.2)

structure MtOk (m : Mt) : Prop where
  cl1 : 1 ≤ m.cl
  cl8 : m.cl ≤ 8
  st0 : 0 ≤ m.st
  st8 : m.st ≤ 8
  ac0 : 0 ≤ m.ac
  ac6 : m.ac ≤ 1000000
  win1 : 1 ≤ m.win
  win15 : m.win ≤ 1000000000000000
  now0 : 0 ≤ m.now
  now15 : m.now ≤ 1000000000000000
  p0 : ∀ k, 0 ≤ (m.us k).1
  p1 : ∀ k, (m.us k).1 ≤ m.st
  a0 : ∀ k, 0 ≤ (m.us k).2.1
  a1 : ∀ k, (m.us k).2.1 ≤ m.ac
  wle : ∀ k, (m.us k).2.2 ≤ m.now / m.win

theorem MtAt.only {w w' : World} {b : Nat} {m : Mt} {S : Nat → Prop} (h : MtAt w b m) (k : Only S w w') (hb : ¬ S b) : MtAt w' b m :=
  ⟨h.c0.only k hb, h.c11.only k hb, h.c13.only k hb, h.c14.only k hb, h.c15.only k hb, fun i hi => (h.u0 i hi).only k hb, fun i hi => (h.u1 i hi).only k hb, fun i hi => (h.u2 i hi).only k hb⟩

theorem MtAt.drew {w : World} {b : Nat} {m : Mt} (h : MtAt w b m) : MtAt w.drew b m := h.only ((Only.refl (fun _ => False) w).drew) id
theorem MtAt.drewN {w : World} {b : Nat} {m : Mt} (h : MtAt w b m) (n : Nat) : MtAt (w.drewN n) b m := h.only ((Only.refl (fun _ => False) w).drewN n) id
theorem MtAt.alloc {w : World} {b : Nat} {m : Mt} (h : MtAt w b m) (o : Obj) : MtAt (w.alloc o) b m := h.only ((Only.refl (fun _ => False) w).alloc o) id

def Mt.w (m : Mt) : Int := m.now / m.win
def Mt.eff (m : Mt) (k : Nat) : Int := if (m.us k).2.2 = m.w then (m.us k).2.1 else 0
def Mt.is (m : Mt) (c : Int) : Prop := 1 ≤ c ∧ c ≤ m.cl
instance (m : Mt) (c : Int) : Decidable (m.is c) := by unfold Mt.is; infer_instance
def Mt.put (m : Mt) (k : Nat) (x : Int × Int × Int) : Mt := { m with us := fun i => if i = k then x else m.us i }
def Mt.used (m : Mt) (c : Int) : Int × Int := if m.is c then ((m.us c.toNat).1, m.eff c.toNat) else (0, 0)
def Mt.acts (m : Mt) (c n : Int) : Int × Mt := if ¬ m.is c ∨ n < 0 then (1, m) else if n > m.ac - m.eff c.toNat then (220, m) else (0, m.put c.toNat ((m.us c.toNat).1, m.eff c.toNat + n, m.w))
def Mt.plan (m : Mt) (c : Int) : Int × Mt := if ¬ m.is c then (1, m) else if (m.us c.toNat).1 ≥ m.st then (222, m) else (0, m.put c.toNat ((m.us c.toNat).1 + 1, m.eff c.toNat, m.w))
def Mt.drop (m : Mt) (c : Int) : Int × Mt := if ¬ m.is c then (1, m) else if (m.us c.toNat).1 = 0 then (222, m) else (0, m.put c.toNat ((m.us c.toNat).1 - 1, m.eff c.toNat, m.w))
def Mt.tick (m : Mt) (t : Int) : Int × Mt := if t < m.now ∨ t > 1000000000000000 then (223, m) else (0, { m with now := t })

theorem MtOk.eff {m : Mt} (h : MtOk m) (k : Nat) : 0 ≤ m.eff k ∧ m.eff k ≤ m.ac := by
  unfold Mt.eff
  have := h.a0 k; have := h.a1 k; have := h.ac0
  split <;> omega
theorem MtOk.w {m : Mt} (h : MtOk m) : 0 ≤ m.w ∧ m.w ≤ 1000000000000000 := by
  unfold Mt.w
  have h1 := Int.ediv_nonneg h.now0 (show 0 ≤ m.win by have := h.win1; omega)
  have h2 := Int.ediv_le_self m.win h.now0
  have := h.now15
  omega
theorem MtOk.put {m : Mt} (h : MtOk m) (k : Nat) (x : Int × Int × Int) (h1 : 0 ≤ x.1 ∧ x.1 ≤ m.st) (h2 : 0 ≤ x.2.1 ∧ x.2.1 ≤ m.ac) (h3 : x.2.2 ≤ m.w) : MtOk (m.put k x) :=
  ⟨h.cl1, h.cl8, h.st0, h.st8, h.ac0, h.ac6, h.win1, h.win15, h.now0, h.now15, fun i => by simp only [Mt.put]; split; exact h1.1; exact h.p0 i, fun i => by simp only [Mt.put]; split; exact h1.2; exact h.p1 i,
    fun i => by simp only [Mt.put]; split; exact h2.1; exact h.a0 i, fun i => by simp only [Mt.put]; split; exact h2.2; exact h.a1 i,
    fun i => by simp only [Mt.put]; split; exact h3; exact h.wle i⟩
theorem MtOk.acts {m : Mt} (h : MtOk m) (c n : Int) : MtOk (m.acts c n).2 := by
  unfold Mt.acts
  have := h.eff c.toNat
  split
  · exact h
  · split
    · exact h
    · exact h.put _ _ ⟨h.p0 _, h.p1 _⟩ ⟨by simp only; omega, by simp only; omega⟩ (Int.le_refl _)
theorem MtOk.plan {m : Mt} (h : MtOk m) (c : Int) : MtOk (m.plan c).2 := by
  unfold Mt.plan
  have := h.p0 c.toNat
  split
  · exact h
  · split
    · exact h
    · exact h.put _ _ ⟨by simp only; omega, by simp only; omega⟩ (h.eff _) (Int.le_refl _)
theorem MtOk.drop {m : Mt} (h : MtOk m) (c : Int) : MtOk (m.drop c).2 := by
  unfold Mt.drop
  have := h.p0 c.toNat; have := h.p1 c.toNat
  split
  · exact h
  · split
    · exact h
    · exact h.put _ _ ⟨by simp only; omega, by simp only; omega⟩ (h.eff _) (Int.le_refl _)
theorem MtOk.tick {m : Mt} (h : MtOk m) (t : Int) : MtOk (m.tick t).2 := by
  unfold Mt.tick
  split
  · exact h
  · have := h.now0
    exact ⟨h.cl1, h.cl8, h.st0, h.st8, h.ac0, h.ac6, h.win1, h.win15, by simp only; omega, by simp only; omega, h.p0, h.p1, h.a0, h.a1, fun k => Int.le_trans (h.wle k) (Int.ediv_le_ediv (by have := h.win1; omega) (by simp only; omega))⟩

/-- One client's three cells are written anew. -/
theorem MtAt.put {w : World} {b : Nat} {m : Mt} (h : MtAt w b m) {k : Nat} (hk : k < 9) (x y z : Int) :
    MtAt (((w.setCell ⟨b, 16 + k * 3, none⟩ (.int .i64 x)).setCell ⟨b, 16 + k * 3 + 1, none⟩ (.int .i64 y)).setCell ⟨b, 16 + k * 3 + 2, none⟩ (.int .i64 z)) b (m.put k (x, y, z)) := by
  have far : ∀ {o : Nat} {v : Value}, Cell w b o v → (o < 16 + k * 3 ∨ 16 + k * 3 + 2 < o) → Cell (((w.setCell ⟨b, 16 + k * 3, none⟩ (.int .i64 x)).setCell ⟨b, 16 + k * 3 + 1, none⟩ (.int .i64 y)).setCell ⟨b, 16 + k * 3 + 2, none⟩ (.int .i64 z)) b o v :=
    fun {o v} hc ho => ((hc.far (off_ne (by omega)) _).far (off_ne (by omega)) _).far (off_ne (by omega)) _
  refine ⟨far h.c0 (by omega), far h.c11 (by omega), far h.c13 (by omega), far h.c14 (by omega), far h.c15 (by omega), fun i hi => ?_, fun i hi => ?_, fun i hi => ?_⟩
  · by_cases e : i = k
    · subst e; simp only [Mt.put, if_pos]; exact (((h.u0 i hi).set _).far (off_ne (by omega)) _).far (off_ne (by omega)) _
    · simp only [Mt.put, if_neg e]; exact far (h.u0 i hi) (by omega)
  · by_cases e : i = k
    · subst e; simp only [Mt.put, if_pos]; exact (((h.u1 i hi).far (off_ne (by omega)) _).set _).far (off_ne (by omega)) _
    · simp only [Mt.put, if_neg e]; exact far (h.u1 i hi) (by omega)
  · by_cases e : i = k
    · subst e; simp only [Mt.put, if_pos]; exact (((h.u2 i hi).far (off_ne (by omega)) _).far (off_ne (by omega)) _).set _
    · simp only [Mt.put, if_neg e]; exact far (h.u2 i hi) (by omega)

set_option maxHeartbeats 400000 in
theorem q_window (b : Nat) (m : Mt) (w : World) (ok : MtOk m) (h : MtAt w b m) :
    Calls Try.prog 37 #[.pointer (some ⟨b, 0, none⟩)] w fun e w' => e = .returned (.int .i64 m.w) ∧ ∃ n, w' = w.drewN n := by
  have c15 := h.c15.cell
  have c14 := h.c14.cell
  have hb := ok.win1
  have hn := ok.now0
  have hn2 := ok.now15
  unfold Mt.w
  clear h ok
  obtain ⟨cl, st, ac, win, now, us⟩ := m
  simp only at *
  go_enter Try.func37, Try.ntmps37
  go_wp2
  go_quiet (fail)
  go_wp2
  go_ret
  exact ⟨rfl, _, rfl⟩

set_option maxHeartbeats 400000 in
theorem q_of_no (b : Nat) (m : Mt) (c : Int) (w : World) (hm : ¬ m.is c) (h : MtAt w b m) :
    Calls Try.prog 85 #[.pointer (some ⟨b, 0, none⟩), .int .i64 c] w fun e w' => e = .returned (.tuple #[.agg #[.int .i64 0, .int .i64 0, .int .i64 0], .bool false]) ∧ Only (fun _ => False) w w' := by
  have c0 := h.c0.cell
  have hlt := cell_lt c0
  unfold Mt.is at hm
  clear h
  obtain ⟨cl, st, ac, win, now, us⟩ := m
  simp only at *
  by_cases h1 : c < 1
  · go_enter Try.func85, Try.ntmps85
    go_wp2
    go_returns
    exact ⟨rfl, by repeat' (first | (with_reducible exact Only.refl _ _) | (with_reducible assumption) | (refine Only.of_none ?_; with_reducible assumption) | (with_reducible refine Only.drewN ?_ _) | (with_reducible refine Only.drew ?_) | (with_reducible refine Only.alloc ?_ _) | (with_reducible refine Only.setCell ?_ ?_ _) | (with_reducible refine Only.then0 ?_ (by with_reducible assumption)) | (with_reducible refine Only.thenN ?_ (by with_reducible assumption) ?_) | (with_reducible refine Only.trans ?_ (by with_reducible assumption)) | (refine .inl ?_; first | rfl | (simp; done) | (simp [Ar.blk]; done)) | (refine .inr ?_; first | omega | (simp; done) | (simp; omega) | exact Only.size (by with_reducible assumption) | (refine Nat.le_trans (Only.size (by with_reducible assumption)) ?_; simp; done)))⟩
  · have h2 : cl < c := by omega
    have h3 : 1 ≤ c := by omega
    clear h1 hm
    go_enter Try.func85, Try.ntmps85
    go_wp2
    go_returns
    exact ⟨rfl, by repeat' (first | (with_reducible exact Only.refl _ _) | (with_reducible assumption) | (refine Only.of_none ?_; with_reducible assumption) | (with_reducible refine Only.drewN ?_ _) | (with_reducible refine Only.drew ?_) | (with_reducible refine Only.alloc ?_ _) | (with_reducible refine Only.setCell ?_ ?_ _) | (with_reducible refine Only.then0 ?_ (by with_reducible assumption)) | (with_reducible refine Only.thenN ?_ (by with_reducible assumption) ?_) | (with_reducible refine Only.trans ?_ (by with_reducible assumption)) | (refine .inl ?_; first | rfl | (simp; done) | (simp [Ar.blk]; done)) | (refine .inr ?_; first | omega | (simp; done) | (simp; omega) | exact Only.size (by with_reducible assumption) | (refine Nat.le_trans (Only.size (by with_reducible assumption)) ?_; simp; done)))⟩

set_option maxHeartbeats 400000 in
theorem q_of_yes (b : Nat) (m : Mt) (c : Int) (w : World) (ok : MtOk m) (hm : m.is c) (h : MtAt w b m) :
    Calls Try.prog 85 #[.pointer (some ⟨b, 0, none⟩), .int .i64 c] w fun e w' => e = .returned (.tuple #[.agg #[.int .i64 (m.us c.toNat).1, .int .i64 (m.eff c.toNat), .int .i64 m.w], .bool true]) ∧ Only (fun _ => False) w w' := by
  have c0 := h.c0.cell
  have hlt := cell_lt c0
  have h1 : 1 ≤ c := hm.1
  have h2 := hm.2
  have h8 := ok.cl8
  have hk : c.toNat < 9 := by omega
  have u0 := (h.u0 _ hk).cell
  have u1 := (h.u1 _ hk).cell
  have u2 := (h.u2 _ hk).cell
  have hat : ∀ o1 o2 n, MtAt (((w.alloc o1).alloc o2).drewN n) b m := fun o1 o2 n => h.only (S := fun _ => False) (by repeat' (first | (with_reducible exact Only.refl _ _) | (with_reducible assumption) | (refine Only.of_none ?_; with_reducible assumption) | (with_reducible refine Only.drewN ?_ _) | (with_reducible refine Only.drew ?_) | (with_reducible refine Only.alloc ?_ _) | (with_reducible refine Only.setCell ?_ ?_ _) | (with_reducible refine Only.then0 ?_ (by with_reducible assumption)) | (with_reducible refine Only.thenN ?_ (by with_reducible assumption) ?_) | (with_reducible refine Only.trans ?_ (by with_reducible assumption)) | (refine .inl ?_; first | rfl | (simp; done) | (simp [Ar.blk]; done)) | (refine .inr ?_; first | omega | (simp; done) | (simp; omega) | exact Only.size (by with_reducible assumption) | (refine Nat.le_trans (Only.size (by with_reducible assumption)) ?_; simp; done)))) id
  have hw := fun o1 o2 n => q_window b m _ ok (hat o1 o2 n)
  have HW := Lib.hid hw
  clear hw hat h ok hm
  obtain ⟨W, hW⟩ : ∃ W, W = m.w := ⟨_, rfl⟩
  rw [← hW] at HW ⊢
  unfold Mt.eff
  rw [← hW]
  clear hW
  obtain ⟨cl, st, ac, win, now, us⟩ := m
  simp only at *
  generalize us c.toNat = x at u0 u1 u2 ⊢
  obtain ⟨p, a, u⟩ := x
  simp only at *
  have e2 : decide (c < 1) = false := by simp; omega
  by_cases hu : u = W
  · subst hu
    rw [if_pos rfl]
    go_enter Try.func85, Try.ntmps85
    go_wp2
    go_quiet ((go_at_call 37; exact Calls.quiet_of (HW.out _ _ _)))
    go_wp2
    go_returns
    exact ⟨rfl, by repeat' (first | (with_reducible exact Only.refl _ _) | (with_reducible assumption) | (refine Only.of_none ?_; with_reducible assumption) | (with_reducible refine Only.drewN ?_ _) | (with_reducible refine Only.drew ?_) | (with_reducible refine Only.alloc ?_ _) | (with_reducible refine Only.setCell ?_ ?_ _) | (with_reducible refine Only.then0 ?_ (by with_reducible assumption)) | (with_reducible refine Only.thenN ?_ (by with_reducible assumption) ?_) | (with_reducible refine Only.trans ?_ (by with_reducible assumption)) | (refine .inl ?_; first | rfl | (simp; done) | (simp [Ar.blk]; done)) | (refine .inr ?_; first | omega | (simp; done) | (simp; omega) | exact Only.size (by with_reducible assumption) | (refine Nat.le_trans (Only.size (by with_reducible assumption)) ?_; simp; done)))⟩
  · rw [if_neg hu]
    have e1 : (u != W) = true := by simpa using hu
    go_enter Try.func85, Try.ntmps85
    go_wp2
    go_quiet ((go_at_call 37; exact Calls.quiet_of (HW.out _ _ _)))
    go_wp2_with ((go_at_call 37; refine (HW.out _ _ _).mono ?_; rintro e w' ⟨rfl, nq, rfl⟩))
    go_returns
    exact ⟨rfl, by repeat' (first | (with_reducible exact Only.refl _ _) | (with_reducible assumption) | (refine Only.of_none ?_; with_reducible assumption) | (with_reducible refine Only.drewN ?_ _) | (with_reducible refine Only.drew ?_) | (with_reducible refine Only.alloc ?_ _) | (with_reducible refine Only.setCell ?_ ?_ _) | (with_reducible refine Only.then0 ?_ (by with_reducible assumption)) | (with_reducible refine Only.thenN ?_ (by with_reducible assumption) ?_) | (with_reducible refine Only.trans ?_ (by with_reducible assumption)) | (refine .inl ?_; first | rfl | (simp; done) | (simp [Ar.blk]; done)) | (refine .inr ?_; first | omega | (simp; done) | (simp; omega) | exact Only.size (by with_reducible assumption) | (refine Nat.le_trans (Only.size (by with_reducible assumption)) ?_; simp; done)))⟩
end Go.Proofs.Ytiiflgihjnlmcaa
