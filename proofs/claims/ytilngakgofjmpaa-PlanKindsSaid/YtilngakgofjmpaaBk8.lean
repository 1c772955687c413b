/- SameOrders at two lists that are alike. Conditions: both are read. -/
import Derived.Test.YtilngakgofjmpaaBk7
namespace Go.Proofs.Ytilngakgofjmpaa
set_option linter.unusedVariables false
set_option linter.unusedSimpArgs false
open Go.RowKit Go.Shelf
open Od (OrdR Lay FreeN Blk4)

theorem ordC_at {l : List OrdR} {k : Nat} {o : OrdR} (h : l[k]? = some o) : (ordC l)[k * 5 + 0]? = some (.int .i64 o.i) ∧ (ordC l)[k * 5 + 1]? = some (.int .i64 o.c) ∧ (ordC l)[k * 5 + 2]? = some (.int .u8 o.s) ∧ (ordC l)[k * 5 + 3]? = some (.int .i64 o.p) ∧ (ordC l)[k * 5 + 4]? = some (.int .i64 o.q) := by
  induction l generalizing k with
  | nil => simp at h
  | cons y t ih =>
    cases k with
    | zero => simp at h; subst h; exact ⟨rfl, rfl, rfl, rfl, rfl⟩
    | succ k =>
      have := ih (k := k) (by simpa using h)
      have e : ∀ j, (ordC (y :: t))[(k + 1) * 5 + j]? = (ordC t)[k * 5 + j]? := fun j => by
        rw [show (k + 1) * 5 + j = (k * 5 + j) + 5 by omega]; rfl
      rw [e, e, e, e, e]
      exact this

/-- A list of orders that is read: where it lies, and what. -/
def OrdAt (w : World) (va : Option Addr) (l : List OrdR) : Prop := ∀ k o, l[k]? = some o → ∃ g, va = some ⟨g, 0, none⟩ ∧ g < w.heap.size ∧ w.cell? ⟨g, k * 5, none⟩ = some (.int .i64 o.i) ∧ w.cell? ⟨g, k * 5 + 1, none⟩ = some (.int .i64 o.c) ∧ w.cell? ⟨g, k * 5 + 2, none⟩ = some (.int .u8 o.s) ∧ w.cell? ⟨g, k * 5 + 3, none⟩ = some (.int .i64 o.p) ∧ w.cell? ⟨g, k * 5 + 4, none⟩ = some (.int .i64 o.q)
theorem OrdAt.of_own {w : World} {base : Nat} {e : TypeId} {v : Value} {l : List OrdR} (h : w.ownsRow base e 5 v l.length (ordC l)) : ∃ va cap, v = .slice va l.length cap ∧ l.length ≤ cap ∧ OrdAt w va l := by
  obtain ⟨va, cap, hv, hc⟩ := own_slice h
  refine ⟨va, cap, hv, hc, fun k o hk => ?_⟩
  have hpos : 0 < l.length := by have := (List.getElem?_eq_some_iff.1 hk).1; omega
  obtain ⟨g, cap', hv', _, _, hlt, hcell⟩ := own_cell h hpos
  rw [hv] at hv'
  injection hv' with e1 e2 e3
  obtain ⟨h0, h1, h2, h3, h4⟩ := ordC_at hk
  exact ⟨g, e1, hlt, (hcell _ _ h0).cell, (hcell _ _ h1).cell, (hcell _ _ h2).cell, (hcell _ _ h3).cell, (hcell _ _ h4).cell⟩
theorem OrdAt.only {w w' : World} {va : Option Addr} {l : List OrdR} (h : OrdAt w va l) {S : Nat → Prop} (o : Only S w w') (hS : ∀ i, i < w.heap.size → ¬ S i) : OrdAt w' va l := fun k x hk => by
  obtain ⟨g, h0, h1, c0, c1, c2, c3, c4⟩ := h k x hk
  have hs := hS g h1
  exact ⟨g, h0, Nat.lt_of_lt_of_le h1 o.size, o.cell c0 hs, o.cell c1 hs, o.cell c2 hs, o.cell c3 hs, o.cell c4 hs⟩

set_option maxRecDepth 100000 in
set_option maxHeartbeats 4000000 in
theorem k_same (w : World) (l : List OrdR) (va vb : Option Addr) (ca cb : Nat) (hl : l.length ≤ 1000000) (ha : OrdAt w va l) (hb : OrdAt w vb l) :
    Calls Try.prog 33 #[.slice va l.length ca, .slice vb l.length cb] w fun e w' => e = .returned (.bool true) ∧ Only (fun _ => False) w w' := by
  obtain ⟨n, hn⟩ : ∃ n, n = l.length := ⟨_, rfl⟩
  rw [← hn] at hl ⊢
  have HN := Lib.hid hn
  have HA := Lib.hid ha
  have HB := Lib.hid hb
  clear hn ha hb
  have hne : ((n : Int) != (n : Int)) = false := by simp
  go_enter Try.func33, Try.ntmps33
  go_wp2_with fail
  go_loopw [5] (fun s wr => ∃ k : Nat, k ≤ n ∧ s = .int .i64 k ∧ Only (fun _ => False) w wr) (fun s _ => n - (intOf s).toNat)
  case atStart => exact ⟨0, Nat.zero_le _, rfl, Only.refl _ _⟩
  case round =>
    obtain ⟨k, hk, rfl, ho⟩ := hrel
    by_cases hlt : k < n
    · have t1 : decide (k < n) = true := by simpa using hlt
      obtain ⟨o, hx⟩ : ∃ o, l[k]? = some o := ⟨_, List.getElem?_eq_getElem (by rw [← HN.out]; exact hlt)⟩
      obtain ⟨g, rfl, hg, a0, a1, a2, a3, a4⟩ := (HA.out.only ho (fun _ _ => id)) k o hx
      obtain ⟨g2, rfl, hg2, b0, b1, b2, b3, b4⟩ := (HB.out.only ho (fun _ _ => id)) k o hx
      have i1 : (0 : Int) ≤ (k : Int) ∧ (k : Int) < (n : Int) := by omega
      have w1 : IntKind.i64.wrap ((k : Int) + 1) = (k : Int) + 1 := by rw [IntKind.wrap_i64]; omega
      obtain ⟨oi, oc, os, op, oq⟩ := o
      simp only at a0 a1 a2 a3 a4 b0 b1 b2 b3 b4
      have HO := Lib.hid ho
      clear hx ho
      go_wp2_with fail
      go_quiet (fail)
      go_wp2_with fail
      go_roundw
      case rel => exact ⟨k + 1, by omega, by go_num, by (repeat' (first | (with_reducible exact Only.refl _ _) | (with_reducible assumption) | (refine Only.of_none ?_; with_reducible assumption) | (with_reducible refine Only.drewN ?_ _) | (with_reducible refine Only.drew ?_) | (with_reducible refine Only.alloc ?_ _) | (with_reducible refine Only.setCell ?_ ?_ _) | (with_reducible refine Only.then0 ?_ (by with_reducible assumption)) | (with_reducible refine Only.thenN ?_ (by with_reducible assumption) ?_) | (with_reducible refine Only.trans ?_ (by with_reducible assumption)) | (refine .inl ?_; first | rfl | (simp; done) | (simp [Ar.blk]; done)) | (refine .inr ?_; first | omega | (simp; done) | (simp; omega) | exact Only.size (by with_reducible assumption) | (refine Nat.le_trans (Only.size (by with_reducible assumption)) ?_; simp; done)))); all_goals exact HO.out⟩
      case measure => simp [intOf]; omega
    · have t1 : decide (k < n) = false := by simpa using hlt
      have HO := Lib.hid ho
      clear ho
      go_wp2_with fail
      go_returns
      exact ⟨rfl, HO.out⟩
end Go.Proofs.Ytilngakgofjmpaa
