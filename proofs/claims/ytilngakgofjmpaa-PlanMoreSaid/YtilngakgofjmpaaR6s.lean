/- SameLevels at two lists that are alike. Conditions: both are read. -/
import Derived.Test.YtilngakgofjmpaaR6e
namespace Go.Proofs.Ytilngakgofjmpaa
set_option linter.unusedVariables false
set_option linter.unusedSimpArgs false
open Go.RowKit Go.Shelf
open Od (OrdR)

/-- A list of levels that is read: where it lies, and what. -/
def LvlAt (w : World) (va : Option Addr) (l : List LvR) : Prop := ∀ k d, l[k]? = some d → ∃ g, va = some ⟨g, 0, none⟩ ∧ g < w.heap.size ∧ w.cell? ⟨g, k * 3, none⟩ = some (.int .i64 d.p) ∧ w.cell? ⟨g, k * 3 + 1, none⟩ = some (.int .i64 d.q) ∧ w.cell? ⟨g, k * 3 + 2, none⟩ = some (.int .i64 d.n)
theorem LvlAt.of_own {w : World} {base : Nat} {e : TypeId} {v : Value} {l : List LvR} (h : w.ownsRow base e 3 v l.length (lvlC l)) : ∃ va cap, v = .slice va l.length cap ∧ l.length ≤ cap ∧ LvlAt w va l := by
  obtain ⟨va, cap, hv, hc⟩ := own_slice h
  refine ⟨va, cap, hv, hc, fun k o hk => ?_⟩
  have hpos : 0 < l.length := by have := (List.getElem?_eq_some_iff.1 hk).1; omega
  obtain ⟨g, cap', hv', _, _, hlt, hcell⟩ := own_cell h hpos
  rw [hv] at hv'
  injection hv' with e1 e2 e3
  obtain ⟨h0, h1, h2⟩ := lvlC_at hk
  exact ⟨g, e1, hlt, (hcell _ _ h0).cell, (hcell _ _ h1).cell, (hcell _ _ h2).cell⟩
theorem LvlAt.only {w w' : World} {va : Option Addr} {l : List LvR} (h : LvlAt w va l) {S : Nat → Prop} (o : Only S w w') (hS : ∀ i, i < w.heap.size → ¬ S i) : LvlAt w' va l := fun k x hk => by
  obtain ⟨g, h0, h1, c0, c1, c2⟩ := h k x hk
  have hs := hS g h1
  exact ⟨g, h0, Nat.lt_of_lt_of_le h1 o.size, o.cell c0 hs, o.cell c1 hs, o.cell c2 hs⟩

set_option maxRecDepth 100000 in
set_option maxHeartbeats 4000000 in
theorem k_sameL (w : World) (l : List LvR) (va vb : Option Addr) (ca cb : Nat) (hl : l.length ≤ 1000000) (ha : LvlAt w va l) (hb : LvlAt w vb l) :
    Calls Try.prog 89 #[.slice va l.length ca, .slice vb l.length cb] w fun e w' => e = .returned (.bool true) ∧ Only (fun _ => False) w w' := by
  obtain ⟨n, hn⟩ : ∃ n, n = l.length := ⟨_, rfl⟩
  rw [← hn] at hl ⊢
  have HN := Lib.hid hn
  have HA := Lib.hid ha
  have HB := Lib.hid hb
  clear hn ha hb
  have hne : ((n : Int) != (n : Int)) = false := by simp
  go_enter Try.func89, Try.ntmps89
  go_wp2_with fail
  go_loopw [5] (fun s wr => ∃ k : Nat, k ≤ n ∧ s = .int .i64 k ∧ Only (fun _ => False) w wr) (fun s _ => n - (intOf s).toNat)
  case atStart => exact ⟨0, Nat.zero_le _, rfl, Only.refl _ _⟩
  case round =>
    obtain ⟨k, hk, rfl, ho⟩ := hrel
    by_cases hlt : k < n
    · have t1 : decide (k < n) = true := by simpa using hlt
      obtain ⟨o, hx⟩ : ∃ o, l[k]? = some o := ⟨_, List.getElem?_eq_getElem (by rw [← HN.out]; exact hlt)⟩
      obtain ⟨g, rfl, hg, a0, a1, a2⟩ := (HA.out.only ho (fun _ _ => id)) k o hx
      obtain ⟨g2, rfl, hg2, b0, b1, b2⟩ := (HB.out.only ho (fun _ _ => id)) k o hx
      have i1 : (0 : Int) ≤ (k : Int) ∧ (k : Int) < (n : Int) := by omega
      have w1 : IntKind.i64.wrap ((k : Int) + 1) = (k : Int) + 1 := by rw [IntKind.wrap_i64]; omega
      obtain ⟨op, oq, on⟩ := o
      simp only at a0 a1 a2 b0 b1 b2
      have HO := Lib.hid ho
      clear hx ho
      go_wp2_with fail
      go_quiet (fail)
      go_wp2_with fail
      go_roundw
      case rel => exact ⟨k + 1, by omega, by go_num, by (repeat' (first | (with_reducible exact Only.refl _ _) | (with_reducible assumption) | (refine Only.of_none ?_; with_reducible assumption) | (with_reducible refine Only.drewN ?_ _) | (with_reducible refine Only.drew ?_) | (with_reducible refine Only.alloc ?_ _) | (with_reducible refine Only.setCell ?_ ?_ _) | (with_reducible refine Only.then0 ?_ (by with_reducible assumption)) | (with_reducible refine Only.thenN ?_ (by with_reducible assumption) ?_) | (with_reducible refine Only.trans ?_ (by with_reducible assumption)) | (refine .inl ?_; first | rfl | (simp; done) | (simp [Ar.blk]; done)) | (refine .inr ?_; first | omega | (simp; done) | (simp; omega) | exact Only.size (by with_reducible assumption) | (refine Nat.le_trans (Only.size (by with_reducible assumption)) ?_; simp; done)))); all_goals exact HO.out⟩
      case measure => simp [intOf]; omega
    · have t1 : decide (k < n) = false := by simpa using hlt
      have HO := Lib.hid ho
      clear ho
      go_wp2_with fail
      go_returns
      exact ⟨rfl, HO.out⟩
end Go.Proofs.Ytilngakgofjmpaa
