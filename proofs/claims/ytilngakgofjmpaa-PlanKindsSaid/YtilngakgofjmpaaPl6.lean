/- SameHits at two lists that are alike. Conditions: both are read. -/
import Derived.Test.YtilngakgofjmpaaPlB
namespace Go.Proofs.Ytilngakgofjmpaa
set_option linter.unusedVariables false
set_option linter.unusedSimpArgs false
open Go.RowKit

theorem hitC_at {l : List HitR} {k : Nat} {d : HitR} (h : l[k]? = some d) : (hitC l)[k * 4]? = some (.int .i64 d.i) ∧ (hitC l)[k * 4 + 1]? = some (.int .i64 d.p) ∧ (hitC l)[k * 4 + 2]? = some (.int .i64 d.q) ∧ (hitC l)[k * 4 + 3]? = some (.bool d.o) := by
  induction l generalizing k with
  | nil => simp at h
  | cons y t ih =>
    cases k with
    | zero => simp at h; subst h; exact ⟨rfl, rfl, rfl, rfl⟩
    | succ k =>
      have := ih (k := k) (by simpa using h)
      have e : ∀ j, (hitC (y :: t))[(k + 1) * 4 + j]? = (hitC t)[k * 4 + j]? := fun j => by
        rw [show (k + 1) * 4 + j = (k * 4 + j) + 4 by omega]; rfl
      have e0 := e 0
      rw [Nat.add_zero, Nat.add_zero] at e0
      rw [e0, e, e, e]
      exact this
/-- A list of hits that is read: where it lies, and what. -/
def HitAt (w : World) (va : Option Addr) (l : List HitR) : Prop := ∀ k d, l[k]? = some d → ∃ g off, va = some ⟨g, off, none⟩ ∧ g < w.heap.size ∧ w.cell? ⟨g, off + k * 4, none⟩ = some (.int .i64 d.i) ∧ w.cell? ⟨g, off + k * 4 + 1, none⟩ = some (.int .i64 d.p) ∧ w.cell? ⟨g, off + k * 4 + 2, none⟩ = some (.int .i64 d.q) ∧ w.cell? ⟨g, off + k * 4 + 3, none⟩ = some (.bool d.o)
theorem HitAt.of_own {w : World} {base : Nat} {e : TypeId} {v : Value} {l : List HitR} (h : w.ownsRow base e 4 v l.length (hitC l)) : ∃ va cap, v = .slice va l.length cap ∧ l.length ≤ cap ∧ HitAt w va l := by
  obtain ⟨va, cap, hv, hc⟩ := own_slice h
  refine ⟨va, cap, hv, hc, fun k o hk => ?_⟩
  have hpos : 0 < l.length := by have := (List.getElem?_eq_some_iff.1 hk).1; omega
  obtain ⟨g, cap', hv', _, _, hlt, hcell⟩ := own_cell h hpos
  rw [hv] at hv'
  injection hv' with e1 e2 e3
  obtain ⟨h0, h1, h2, h3⟩ := hitC_at hk
  refine ⟨g, 0, e1, hlt, ?_, ?_, ?_, ?_⟩ <;> rw [Nat.zero_add]
  · exact (hcell _ _ h0).cell
  · exact (hcell _ _ h1).cell
  · exact (hcell _ _ h2).cell
  · exact (hcell _ _ h3).cell
theorem HitAt.of_slice {w : World} {base : Nat} {e : TypeId} {va : Option Addr} {cap : Nat} {l : List HitR} (h : w.ownsRow base e 4 (.slice va l.length cap) l.length (hitC l)) : HitAt w va l := by
  obtain ⟨va', cap', hv, _, ho⟩ := HitAt.of_own h
  injection hv with e1 e2 e3
  rw [e1]; exact ho
theorem HitAt.only {w w' : World} {va : Option Addr} {l : List HitR} (h : HitAt w va l) {S : Nat → Prop} (o : Only S w w') (hS : ∀ i, i < w.heap.size → ¬ S i) : HitAt w' va l := fun k x hk => by
  obtain ⟨g, off, h0, h1, c0, c1, c2, c3⟩ := h k x hk
  have hs := hS g h1
  exact ⟨g, off, h0, Nat.lt_of_lt_of_le h1 o.size, o.cell c0 hs, o.cell c1 hs, o.cell c2 hs, o.cell c3 hs⟩

set_option maxRecDepth 100000 in
set_option maxHeartbeats 4000000 in
theorem k_sameH (w : World) (l : List HitR) (va vb : Option Addr) (ca cb : Nat) (hl : l.length ≤ 100000000) (ha : HitAt w va l) (hb : HitAt w vb l) :
    Calls Try.prog 54 #[.slice va l.length ca, .slice vb l.length cb] w fun e w' => e = .returned (.bool true) ∧ Only (fun _ => False) w w' := by
  obtain ⟨n, hn⟩ : ∃ n, n = l.length := ⟨_, rfl⟩
  rw [← hn] at hl ⊢
  have HN := Lib.hid hn
  have HA := Lib.hid ha
  have HB := Lib.hid hb
  clear hn ha hb
  have hne : ((n : Int) != (n : Int)) = false := by simp
  go_enter Try.func54, Try.ntmps54
  go_wp2_with fail
  go_loopw [5] (fun s wr => ∃ k : Nat, k ≤ n ∧ s = .int .i64 k ∧ Only (fun _ => False) w wr) (fun s _ => n - (intOf s).toNat)
  case atStart => exact ⟨0, Nat.zero_le _, rfl, Only.refl _ _⟩
  case round =>
    obtain ⟨k, hk, rfl, ho⟩ := hrel
    by_cases hlt : k < n
    · have t1 : decide (k < n) = true := by simpa using hlt
      obtain ⟨o, hx⟩ : ∃ o, l[k]? = some o := ⟨_, List.getElem?_eq_getElem (by rw [← HN.out]; exact hlt)⟩
      obtain ⟨g, off, rfl, hg, a0, a1, a2, a3⟩ := (HA.out.only ho (fun _ _ => id)) k o hx
      obtain ⟨g2, off2, rfl, hg2, b0, b1, b2, b3⟩ := (HB.out.only ho (fun _ _ => id)) k o hx
      have i1 : (0 : Int) ≤ (k : Int) ∧ (k : Int) < (n : Int) := by omega
      have w1 : IntKind.i64.wrap ((k : Int) + 1) = (k : Int) + 1 := by rw [IntKind.wrap_i64]; omega
      obtain ⟨oi, op, oq, oo⟩ := o
      simp only at a0 a1 a2 a3 b0 b1 b2 b3
      have HO := Lib.hid ho
      clear hx ho
      go_wp2_with fail
      go_quiet (fail)
      go_wp2_with fail
      go_roundw
      case rel => exact ⟨k + 1, by omega, by go_num, by (repeat' (first | (with_reducible exact Only.refl _ _) | (with_reducible assumption) | (refine Only.of_none ?_; with_reducible assumption) | (with_reducible refine Only.drewN ?_ _) | (with_reducible refine Only.drew ?_) | (with_reducible refine Only.alloc ?_ _) | (with_reducible refine Only.setCell ?_ ?_ _) | (with_reducible refine Only.then0 ?_ (by with_reducible assumption)) | (with_reducible refine Only.thenN ?_ (by with_reducible assumption) ?_) | (with_reducible refine Only.trans ?_ (by with_reducible assumption)) | (refine .inl ?_; first | rfl | (simp; done) | (simp [Ar.blk]; done)) | (refine .inr ?_; first | omega | (simp; done) | (simp; omega) | exact Only.size (by with_reducible assumption) | (refine Nat.le_trans (Only.size (by with_reducible assumption)) ?_; simp; done)))); all_goals exact HO.out⟩
      case measure => simp [intOf]; omega
    · have t1 : decide (k < n) = false := by simpa using hlt
      have HO := Lib.hid ho
      clear ho
      go_wp2_with fail
      go_returns
      exact ⟨rfl, HO.out⟩
end Go.Proofs.Ytilngakgofjmpaa
