/- The document's meter in memory: what lies where; Window, Used, Tick. Conditions: the meter's numbers lie in their ranges. -/
import Derived.Test.YtiiflgihjnlmcaaQuota2
import Derived.Laws.AppendOwn
namespace Go.Proofs.Ytiiflgihjnlmcaa
set_option linter.unusedVariables false
set_option linter.unusedSimpArgs false
open Go.RowKit

/-- What was taken in a window. -/
def sumIn (win ww : Int) : List (Int × Int) → Int
  | [] => 0
  | x :: t => (if x.1 / win = ww then x.2 else 0) + sumIn win ww t
theorem sumIn_append (win ww : Int) (l m : List (Int × Int)) : sumIn win ww (l ++ m) = sumIn win ww l + sumIn win ww m := by
  induction l with
  | nil => simp [sumIn]
  | cons x t ih => simp only [List.cons_append, sumIn, ih]; omega
theorem sumIn_nonneg {win ww : Int} {l : List (Int × Int)} (h : ∀ x ∈ l, 0 ≤ x.2) : 0 ≤ sumIn win ww l := by
  induction l with
  | nil => simp [sumIn]
  | cons x t ih =>
    have h1 := h x (by simp)
    have h2 := ih fun y hy => h y (by simp [hy])
    simp only [sumIn]
    split <;> omega
theorem sumIn_take {win ww : Int} {l : List (Int × Int)} (h : ∀ x ∈ l, 0 ≤ x.2) (k : Nat) : 0 ≤ sumIn win ww (l.take k) ∧ sumIn win ww (l.take k) ≤ sumIn win ww l := by
  refine ⟨sumIn_nonneg fun x hx => h x (List.mem_of_mem_take hx), ?_⟩
  have e := sumIn_append win ww (l.take k) (l.drop k)
  rw [List.take_append_drop] at e
  have := sumIn_nonneg (win := win) (ww := ww) (l := l.drop k) fun x hx => h x (List.mem_of_mem_drop hx)
  omega
/-- A take's cells. -/
def takeV (l : List (Int × Int)) : List Value := l.flatMap fun x => [.int .i64 x.1, .int .i64 x.2]
theorem takeV_append (l m : List (Int × Int)) : takeV (l ++ m) = takeV l ++ takeV m := by simp [takeV]
theorem takeV_length (l : List (Int × Int)) : (takeV l).length = l.length * 2 := by
  induction l with
  | nil => rfl
  | cons x t ih => simp only [takeV, List.flatMap_cons, List.length_append, List.length_cons, List.length_nil] at ih ⊢; omega
theorem takeV_at {l : List (Int × Int)} {i : Nat} {x : Int × Int} (h : l[i]? = some x) : (takeV l)[i * 2]? = some (.int .i64 x.1) ∧ (takeV l)[i * 2 + 1]? = some (.int .i64 x.2) := by
  induction l generalizing i with
  | nil => simp at h
  | cons y t ih =>
    cases i with
    | zero => simp at h; subst h; exact ⟨rfl, rfl⟩
    | succ i =>
      have := ih (i := i) (by simpa using h)
      rw [show (i + 1) * 2 = i * 2 + 2 by omega]
      exact this

/-- The document's meter lies at b, its plans at gp, its lists' heads at gt, and the lists beyond base. -/
structure RfAt (base : Nat) (w : World) (b gp gt : Nat) (m : Mt) (k : Nat) (hv : Nat → Value) (T : Nat → List (Int × Int)) : Prop where
  c0 : Cell w b 0 (.int .i64 m.cl)
  c11 : Cell w b 11 (.int .i64 m.st)
  c13 : Cell w b 13 (.int .i64 m.ac)
  c14 : Cell w b 14 (.int .i64 m.win)
  c15 : Cell w b 15 (.int .i64 m.now)
  c16 : Cell w b 16 (.slice (some ⟨gp, 0, none⟩) k k)
  c17 : Cell w b 17 (.slice (some ⟨gt, 0, none⟩) k k)
  ek : (k : Int) = m.cl + 1
  pl : ∀ i, i < k → Cell w gp i (.int .i64 (m.us i).1)
  hd : ∀ i, i < k → Cell w gt i (hv i)
  own : ∀ i, i < k → w.ownsRow base 145 2 (hv i) (T i).length (takeV (T i))
  dis : ∀ i j, i < k → j < k → i ≠ j → (hv i).ownBlock = none ∨ (hv i).ownBlock ≠ (hv j).ownBlock
  lows : b < base ∧ gp < base ∧ gt < base
  ne : b ≠ gp ∧ b ≠ gt ∧ gp ≠ gt
  low : base ≤ w.heap.size

/-- What the lists say. -/
structure RfOk (m : Mt) (k : Nat) (T : Nat → List (Int × Int)) (N : Nat) : Prop where
  at0 : ∀ i, i < k → ∀ x ∈ T i, 0 ≤ x.1 ∧ x.1 ≤ m.now ∧ 0 ≤ x.2
  sum : ∀ i, i < k → sumIn m.win m.w (T i) = m.eff i
  len : ∀ i, i < k → (T i).length ≤ N

/-- The blocks of the document's meter. -/
def RfB (base b gp gt : Nat) (i : Nat) : Prop := i = b ∨ i = gp ∨ i = gt ∨ base ≤ i

theorem ownsRow_only {w w' : World} {S : Nat → Prop} {base : Nat} {e : TypeId} {size : Nat} {v : Value} {n : Nat} {xs : List Value} (h : w.ownsRow base e size v n xs) (k : Only S w w') (hS : ∀ i, base ≤ i → ¬ S i) : w'.ownsRow base e size v n xs := by
  refine ⟨h.1, ?_⟩
  rcases h.2 with hn | ⟨g, cap, cur, rfl, hb, hgg, rest⟩
  · exact .inl hn
  · exact .inr ⟨g, cap, cur, rfl, hb, (k.block g (Array.getElem?_eq_some_iff.1 hgg).1 (hS g hb)).trans hgg, rest⟩

theorem RfAt.only {base : Nat} {w w' : World} {b gp gt : Nat} {m : Mt} {k : Nat} {hv : Nat → Value} {T : Nat → List (Int × Int)} (h : RfAt base w b gp gt m k hv T) {S : Nat → Prop} (ho : Only S w w') (hS : ∀ i, RfB base b gp gt i → ¬ S i) : RfAt base w' b gp gt m k hv T :=
  have hb := hS b (.inl rfl); have hp := hS gp (.inr (.inl rfl)); have ht := hS gt (.inr (.inr (.inl rfl)))
  ⟨h.c0.only ho hb, h.c11.only ho hb, h.c13.only ho hb, h.c14.only ho hb, h.c15.only ho hb, h.c16.only ho hb, h.c17.only ho hb, h.ek, fun i hi => (h.pl i hi).only ho hp, fun i hi => (h.hd i hi).only ho ht,
    fun i hi => ownsRow_only (h.own i hi) ho (fun j hj => hS j (.inr (.inr (.inr hj)))), h.dis, h.lows, h.ne, Nat.le_trans h.low ho.size⟩

set_option maxHeartbeats 400000 in
theorem r_window (base b gp gt k : Nat) (hv : Nat → Value) (T : Nat → List (Int × Int)) (m : Mt) (w : World) (ok : MtOk m) (h : RfAt base w b gp gt m k hv T) :
    Calls Try.prog 88 #[.pointer (some ⟨b, 0, none⟩)] w fun e w' => e = .returned (.int .i64 m.w) ∧ Only (fun _ => False) w w' := by
  have c15 := h.c15.cell
  have c14 := h.c14.cell
  have hb := ok.win1
  have hn := ok.now0
  have hn2 := ok.now15
  unfold Mt.w
  clear h ok
  obtain ⟨cl, st, ac, win, now, us⟩ := m
  simp only at *
  go_enter Try.func88, Try.ntmps88
  go_wp2
  go_quiet (fail)
  go_wp2
  go_ret
  exact ⟨rfl, by repeat' (first | (with_reducible exact Only.refl _ _) | (with_reducible assumption) | (refine Only.of_none ?_; with_reducible assumption) | (with_reducible refine Only.drewN ?_ _) | (with_reducible refine Only.drew ?_) | (with_reducible refine Only.alloc ?_ _) | (with_reducible refine Only.setCell ?_ ?_ _) | (with_reducible refine Only.then0 ?_ (by with_reducible assumption)) | (with_reducible refine Only.thenN ?_ (by with_reducible assumption) ?_) | (with_reducible refine Only.trans ?_ (by with_reducible assumption)) | (refine .inl ?_; first | rfl | (simp; done) | (simp [Ar.blk]; done)) | (refine .inr ?_; first | omega | (simp; done) | (simp; omega) | exact Only.size (by with_reducible assumption) | (refine Nat.le_trans (Only.size (by with_reducible assumption)) ?_; simp; done)))⟩

/-- is. -/
theorem r_is (base b gp gt k : Nat) (hv : Nat → Value) (T : Nat → List (Int × Int)) (m : Mt) (c : Int) (w : World) (h : RfAt base w b gp gt m k hv T) :
    Calls Try.prog 86 #[.pointer (some ⟨b, 0, none⟩), .int .i64 c] w fun e w' => e = .returned (.bool (decide (m.is c))) ∧ Only (fun _ => False) w w' := by
  have c0 := h.c0.cell
  unfold Mt.is
  clear h
  obtain ⟨cl, st, ac, win, now, us⟩ := m
  simp only at *
  by_cases h1 : 1 ≤ c
  · by_cases h2 : c ≤ cl
    · have e1 : decide (1 ≤ c ∧ c ≤ cl) = true := by simp [h1, h2]
      rw [e1]
      go_enter Try.func86, Try.ntmps86
      go_wp2_with fail
      go_returns
      exact ⟨by simp [h1, h2], by repeat' (first | (with_reducible exact Only.refl _ _) | (with_reducible assumption) | (refine Only.of_none ?_; with_reducible assumption) | (with_reducible refine Only.drewN ?_ _) | (with_reducible refine Only.drew ?_) | (with_reducible refine Only.alloc ?_ _) | (with_reducible refine Only.setCell ?_ ?_ _) | (with_reducible refine Only.then0 ?_ (by with_reducible assumption)) | (with_reducible refine Only.thenN ?_ (by with_reducible assumption) ?_) | (with_reducible refine Only.trans ?_ (by with_reducible assumption)) | (refine .inl ?_; first | rfl | (simp; done) | (simp [Ar.blk]; done)) | (refine .inr ?_; first | omega | (simp; done) | (simp; omega) | exact Only.size (by with_reducible assumption) | (refine Nat.le_trans (Only.size (by with_reducible assumption)) ?_; simp; done)))⟩
    · have e1 : decide (1 ≤ c ∧ c ≤ cl) = false := by simp [h2]
      rw [e1]
      go_enter Try.func86, Try.ntmps86
      go_wp2_with fail
      go_returns
      exact ⟨by simp [h1, h2], by repeat' (first | (with_reducible exact Only.refl _ _) | (with_reducible assumption) | (refine Only.of_none ?_; with_reducible assumption) | (with_reducible refine Only.drewN ?_ _) | (with_reducible refine Only.drew ?_) | (with_reducible refine Only.alloc ?_ _) | (with_reducible refine Only.setCell ?_ ?_ _) | (with_reducible refine Only.then0 ?_ (by with_reducible assumption)) | (with_reducible refine Only.thenN ?_ (by with_reducible assumption) ?_) | (with_reducible refine Only.trans ?_ (by with_reducible assumption)) | (refine .inl ?_; first | rfl | (simp; done) | (simp [Ar.blk]; done)) | (refine .inr ?_; first | omega | (simp; done) | (simp; omega) | exact Only.size (by with_reducible assumption) | (refine Nat.le_trans (Only.size (by with_reducible assumption)) ?_; simp; done)))⟩
  · have e1 : decide (1 ≤ c ∧ c ≤ cl) = false := by simp [h1]
    rw [e1]
    go_enter Try.func86, Try.ntmps86
    go_wp2_with fail
    go_returns
    exact ⟨by simp [h1], by repeat' (first | (with_reducible exact Only.refl _ _) | (with_reducible assumption) | (refine Only.of_none ?_; with_reducible assumption) | (with_reducible refine Only.drewN ?_ _) | (with_reducible refine Only.drew ?_) | (with_reducible refine Only.alloc ?_ _) | (with_reducible refine Only.setCell ?_ ?_ _) | (with_reducible refine Only.then0 ?_ (by with_reducible assumption)) | (with_reducible refine Only.thenN ?_ (by with_reducible assumption) ?_) | (with_reducible refine Only.trans ?_ (by with_reducible assumption)) | (refine .inl ?_; first | rfl | (simp; done) | (simp [Ar.blk]; done)) | (refine .inr ?_; first | omega | (simp; done) | (simp; omega) | exact Only.size (by with_reducible assumption) | (refine Nat.le_trans (Only.size (by with_reducible assumption)) ?_; simp; done)))⟩
end Go.Proofs.Ytiiflgihjnlmcaa
