/- Maps from whole numbers to whole numbers, of one's own: what is read, stored, struck. No condition. -/
import Derived.Test.YtkglplngnjgnhaaRows
import Derived.Test.YtkglplngnjgnhaaGen
import Derived.Maps.Own
import Derived.Maps.OwnOps
import Derived.Maps.OwnSet
import Derived.Maps.Views
namespace Go.Proofs.Ytkglplngnjgnhaa
set_option linter.unusedVariables false
set_option linter.unusedSimpArgs false
open Go.RowKit Go.Maps

theorem intKeyed : Keyed Try.prog 3 := int_keyed Try.underlying3
theorem zeroInt (w : World) : (zeroValue 3).run Try.prog w = .ok (.int .i64 0) w := by kernel_rfl
abbrev DU := DataW Unit
def Wf (x : Int) : Prop := (Lit.int .i64 x).wf = true
theorem wf_of {x : Int} (h1 : -9223372036854775808 ≤ x) (h2 : x ≤ 9223372036854775807) : Wf x := WalkArith.wf_i64 (by omega)
theorem lit_inj {a b : Int} (h : (DataW.lit (.int .i64 a) : DU) = .lit (.int .i64 b)) : a = b := by cases h; rfl
theorem lt_max {k : Nat} (h : k ≤ 65536) : k < maxLen := by unfold maxLen; omega

/-- Block bm is a map: of each number what F tells; of k entries. -/
def IMap (w : World) (bm : Nat) (F : Int → Option Int) (k : Nat) : Prop :=
  ∃ D : DU, w.ownsMap Try.prog 3 (plainElem Try.prog 3) bm k D ∧ Maps.size D = k ∧ ∀ x, Wf x →
    (F x = none → Maps.has D (.int .i64 x) = false) ∧ (∀ v, F x = some v → Maps.has D (.int .i64 x) = true ∧ D.atKey (.int .i64 x) (.lit (.int .i64 0)) = .lit (.int .i64 v))

theorem IMap.key (y : Int) : WideAt.IsKeyLit (.int .i64 y) := by simp [WideAt.IsKeyLit]
theorem tight {w : World} {b n : Nat} {D : DU} (h : w.ownsMap Try.prog 3 (plainElem Try.prog 3) b n D) : w.ownsMap Try.prog 3 (plainElem Try.prog 3) b (Maps.size D) D := by
  obtain ⟨es, clock, h1, h2, h3, h4⟩ := h
  refine ⟨es, clock, h1, h2, ?_, h4⟩
  subst h4
  simp [Maps.size, length_sorted]

section
variable {w : World} {bm k : Nat} {F : Int → Option Int}
theorem IMap.lt (h : IMap w bm F k) : bm < w.heap.size := by obtain ⟨D, h, _⟩ := h; exact h.lt
theorem IMap.ne (h : IMap w bm F k) {b o : Nat} {v : Value} (c : w.cell? ⟨b, o, none⟩ = some v) : b ≠ bm := by
  rintro rfl
  obtain ⟨D, ⟨es, clock, hb, _⟩, _⟩ := h
  unfold World.cell? at c
  simp only [hb] at c
  cases c
theorem IMap.only (h : IMap w bm F k) {w' : World} {S : Nat → Prop} (o : Only S w w') (hS : ¬ S bm) : IMap w' bm F k := by
  obtain ⟨D, h, h2, h3⟩ := h
  refine ⟨D, ?_, h2, h3⟩
  obtain ⟨es, clock, hb, r⟩ := h
  exact ⟨es, clock, (o.block bm (Array.getElem?_eq_some_iff.1 hb).1 hS).trans hb, r⟩
theorem IMap.blkEq (h : IMap w bm F k) {w' : World} (e : w'.heap[bm]? = w.heap[bm]?) : IMap w' bm F k := by
  obtain ⟨D, h, h2, h3⟩ := h
  refine ⟨D, ?_, h2, h3⟩
  obtain ⟨es, clock, hb, r⟩ := h
  exact ⟨es, clock, e.trans hb, r⟩
theorem IMap.congr (h : IMap w bm F k) {G : Int → Option Int} (e : ∀ x, Wf x → G x = F x) : IMap w bm G k := by
  obtain ⟨D, h, h2, h3⟩ := h
  exact ⟨D, h, h2, fun x hx => by rw [e x hx]; exact h3 x hx⟩
theorem IMap.new (w : World) : IMap (w.alloc (.map #[] 0)) w.heap.size (fun _ => none) 0 :=
  ⟨.map [], World.ownsMap_made _ _ _ _, rfl, fun x _ => ⟨fun _ => rfl, fun v h => by cases h⟩⟩
theorem IMap.look (h : IMap w bm F k) {x : Int} (hx : Wf x) : (Instr.lookup 125 (.map (some bm)) (.int .i64 x) true).run Try.prog w = .ok (.tuple #[.int .i64 ((F x).getD 0), .bool (F x).isSome]) w := by
  obtain ⟨D, h, h2, h3⟩ := h
  obtain ⟨v, ps, hr, hv⟩ := h.look_ok intKeyed Try.underlying125 (zeroInt w) (zd := .lit (.int .i64 0)) (zp := []) (plainElem_int Try.underlying3 (by decide)) (keyOf_int_mk Try.underlying3 hx)
  obtain ⟨c, rfl, hc, _⟩ := plainElem_int_inv Try.underlying3 hv
  have hc := congrArg Prod.fst hc
  simp only at hc
  rw [hr]
  cases e : F x with
  | none =>
    have h4 := (h3 x hx).1 e
    rw [atKey_of_not_has h4] at hc
    have hc := lit_inj hc
    rw [h4, ← hc]; rfl
  | some u =>
    obtain ⟨h4, h5⟩ := (h3 x hx).2 u e
    rw [h5] at hc
    have hc := lit_inj hc
    rw [h4, ← hc]; rfl
/-- Without the second answer. -/
theorem IMap.look1 (h : IMap w bm F k) {x : Int} (hx : Wf x) : (Instr.lookup 125 (.map (some bm)) (.int .i64 x) false).run Try.prog w = .ok (.int .i64 ((F x).getD 0)) w := by
  obtain ⟨D, h, h2, h3⟩ := h
  obtain ⟨c, hr, hc, _⟩ := h.lookup_int intKeyed Try.underlying125 Try.underlying3 (zeroInt w) (keyOf_int_mk Try.underlying3 hx)
  rw [hr]
  cases e : F x with
  | none =>
    have h4 := (h3 x hx).1 e
    rw [atKey_of_not_has h4] at hc
    have hc := lit_inj hc
    rw [← hc]; rfl
  | some u =>
    obtain ⟨h4, h5⟩ := (h3 x hx).2 u e
    rw [h5] at hc
    have hc := lit_inj hc
    rw [← hc]; rfl
theorem IMap.len (h : IMap w bm F k) (ty : TypeId) : (Builtin.len_ #[125] ty #[.map (some bm)]).run Try.prog w = .ok (.int .i64 k) w := by
  obtain ⟨D, h, h2, h3⟩ := h
  rw [h.len Try.underlying125 ty, h2]

def fput (F : Int → Option Int) (x v : Int) (y : Int) : Option Int := if y = x then some v else F y
def fdel (F : Int → Option Int) (x : Int) (y : Int) : Option Int := if y = x then none else F y

theorem IMap.store (h : IMap w bm F k) (hk : k ≤ 65536) {x v : Int} (hx : Wf x) (hv : Wf v) :
    ∃ w', (Instr.mapUpdate 125 (.map (some bm)) (.int .i64 x) (.int .i64 v)).run Try.prog w = .ok () w' ∧ IMap w' bm (fput F x v) (if (F x).isSome then k else k + 1) ∧ Only (· = bm) w w' := by
  obtain ⟨D, h, h2, h3⟩ := h
  have T := h.tidy intKeyed
  obtain ⟨w', hr, h4, hg⟩ := h.update intKeyed Try.underlying125 (lt_max hk) (keyOf_int_mk Try.underlying3 hx) (plainElem_int (H := Unit) Try.underlying3 hv)
  refine ⟨w', hr, ⟨D.put (.int .i64 x) (.lit (.int .i64 v)), ?_, ?_, fun y hy => ?_⟩, Only.of_grown hg (fun r e => (Option.some.inj e).symm)⟩
  · have h5 := tight h4
    rw [size_put T] at h5
    have e : (if Maps.has D (.int .i64 x) then Maps.size D else Maps.size D + 1) = if (F x).isSome then k else k + 1 := by
      cases e : F x with
      | none => rw [(h3 x hx).1 e, h2]; rfl
      | some u => rw [((h3 x hx).2 u e).1, h2]; rfl
    rwa [e] at h5
  · rw [size_put T]
    cases e : F x with
    | none => rw [(h3 x hx).1 e, h2]; rfl
    | some u => rw [((h3 x hx).2 u e).1, h2]; rfl
  · by_cases e : y = x
    · subst e
      unfold fput
      rw [if_pos rfl]
      refine ⟨(fun h => by cases h), fun u hu => ?_⟩
      cases hu
      exact ⟨has_put_same T.isMap (IMap.key y) _, atKey_put_same T.isMap (IMap.key y) _ _⟩
    · have hne : (Lit.int .i64 y) ≠ Lit.int .i64 x := fun h => e (by injection h)
      unfold fput
      rw [if_neg e, has_put_other hne, atKey_put_other hne]
      exact h3 y hy

theorem IMap.del (h : IMap w bm F k) {x : Int} (hx : Wf x) (ty : TypeId) :
    ∃ w', (Builtin.delete_ #[125, 3] ty #[.map (some bm), .int .i64 x]).run Try.prog w = .ok (.tuple #[]) w' ∧ IMap w' bm (fdel F x) (if (F x).isSome then k - 1 else k) ∧ Only (· = bm) w w' := by
  obtain ⟨D, h, h2, h3⟩ := h
  have T := h.tidy intKeyed
  obtain ⟨w', hr, h4, hg⟩ := h.drop intKeyed Try.underlying125 (keyOf_int_mk Try.underlying3 hx) ty
  have hsz : Maps.size (D.del (.int .i64 x)) = if (F x).isSome then k - 1 else k := by
    have := size_del (k := .int .i64 x) T
    cases e : F x with
    | none => rw [(h3 x hx).1 e, h2] at this; exact this
    | some u =>
      rw [((h3 x hx).2 u e).1, h2] at this
      show _ = k - 1
      rw [if_pos rfl] at this
      clear h3 h2 hx
      omega
  refine ⟨w', hr, ⟨D.del (.int .i64 x), ?_, hsz, fun y hy => ?_⟩, Only.of_grown hg.grown (fun r e => (Option.some.inj e).symm)⟩
  · have h5 := tight h4
    rwa [hsz] at h5
  · by_cases e : y = x
    · subst e
      unfold fdel
      rw [if_pos rfl]
      exact ⟨(fun _ => has_del_same), fun u hu => by cases hu⟩
    · have hne : (Lit.int .i64 y) ≠ Lit.int .i64 x := fun h => e (by injection h)
      unfold fdel
      rw [if_neg e, has_del_other hne, atKey_del_other hne]
      exact h3 y hy
end
end Go.Proofs.Ytkglplngnjgnhaa
