/- Maps from whole numbers to whole numbers, of one's own: what is read, stored, struck. No condition. -/
import Derived.Test.YtilngakgofjmpaaRows
import Derived.Test.YtilngakgofjmpaaJ1
import Derived.Maps.Own
import Derived.Maps.OwnOps
import Derived.Maps.OwnSet
import Derived.Maps.Views
import Derived.Test.YtilngakgofjmpaaJ4
import Derived.Test.YtilngakgofjmpaaJ2
import Derived.Laws.OwnMore
namespace Go.Proofs.Ytilngakgofjmpaa
set_option linter.unusedVariables false
set_option linter.unusedSimpArgs false
open Go.RowKit Go.Maps

theorem intKeyed : Keyed Try.prog 3 := int_keyed Try.underlying3
theorem zeroInt (w : World) : (zeroValue 3).run Try.prog w = .ok (.int .i64 0) w := by kernel_rfl
abbrev DU := DataW Unit
def Wf (x : Int) : Prop := (Lit.int .i64 x).wf = true
theorem wf_of {x : Int} (h1 : -9223372036854775808 ≤ x) (h2 : x ≤ 9223372036854775807) : Wf x := WalkArith.wf_i64 (by omega)
theorem lit_inj {a b : Int} (h : (DataW.lit (.int .i64 a) : DU) = .lit (.int .i64 b)) : a = b := by cases h; rfl
theorem lt_max {k : Nat} (h : k ≤ 65536) : k < maxLen := by unfold maxLen; omega

/-- Block bm is a map: of each number what F tells; of k entries. -/
def IMap (w : World) (bm : Nat) (F : Int → Option Int) (k : Nat) : Prop :=
  ∃ D : DU, w.ownsMap Try.prog 3 (plainElem Try.prog 3) bm k D ∧ Maps.size D = k ∧ ∀ x, Wf x →
    (F x = none → Maps.has D (.int .i64 x) = false) ∧ (∀ v, F x = some v → Maps.has D (.int .i64 x) = true ∧ D.atKey (.int .i64 x) (.lit (.int .i64 0)) = .lit (.int .i64 v))

theorem IMap.key (y : Int) : WideAt.IsKeyLit (.int .i64 y) := by simp [WideAt.IsKeyLit]
theorem tight {w : World} {b n : Nat} {D : DU} (h : w.ownsMap Try.prog 3 (plainElem Try.prog 3) b n D) : w.ownsMap Try.prog 3 (plainElem Try.prog 3) b (Maps.size D) D := by
  obtain ⟨es, clock, h1, h2, h3, h4⟩ := h
  refine ⟨es, clock, h1, h2, ?_, h4⟩
  subst h4
  simp [Maps.size, length_sorted]

section
variable {w : World} {bm k : Nat} {F : Int → Option Int}
theorem IMap.lt (h : IMap w bm F k) : bm < w.heap.size := by obtain ⟨D, h, _⟩ := h; exact h.lt
theorem IMap.ne (h : IMap w bm F k) {b o : Nat} {v : Value} (c : w.cell? ⟨b, o, none⟩ = some v) : b ≠ bm := by
  rintro rfl
  obtain ⟨D, ⟨es, clock, hb, _⟩, _⟩ := h
  unfold World.cell? at c
  simp only [hb] at c
  cases c
theorem IMap.only (h : IMap w bm F k) {w' : World} {S : Nat → Prop} (o : Only S w w') (hS : ¬ S bm) : IMap w' bm F k := by
  obtain ⟨D, h, h2, h3⟩ := h
  refine ⟨D, ?_, h2, h3⟩
  obtain ⟨es, clock, hb, r⟩ := h
  exact ⟨es, clock, (o.block bm (Array.getElem?_eq_some_iff.1 hb).1 hS).trans hb, r⟩
theorem IMap.blkEq (h : IMap w bm F k) {w' : World} (e : w'.heap[bm]? = w.heap[bm]?) : IMap w' bm F k := by
  obtain ⟨D, h, h2, h3⟩ := h
  refine ⟨D, ?_, h2, h3⟩
  obtain ⟨es, clock, hb, r⟩ := h
  exact ⟨es, clock, e.trans hb, r⟩
theorem IMap.congr (h : IMap w bm F k) {G : Int → Option Int} (e : ∀ x, Wf x → G x = F x) : IMap w bm G k := by
  obtain ⟨D, h, h2, h3⟩ := h
  exact ⟨D, h, h2, fun x hx => by rw [e x hx]; exact h3 x hx⟩
theorem IMap.new (w : World) : IMap (w.alloc (.map #[] 0)) w.heap.size (fun _ => none) 0 :=
  ⟨.map [], World.ownsMap_made _ _ _ _, rfl, fun x _ => ⟨fun _ => rfl, fun v h => by cases h⟩⟩
theorem IMap.look (h : IMap w bm F k) {x : Int} (hx : Wf x) : (Instr.lookup 152 (.map (some bm)) (.int .i64 x) true).run Try.prog w = .ok (.tuple #[.int .i64 ((F x).getD 0), .bool (F x).isSome]) w := by
  obtain ⟨D, h, h2, h3⟩ := h
  obtain ⟨v, ps, hr, hv⟩ := h.look_ok intKeyed Try.underlying152 (zeroInt w) (zd := .lit (.int .i64 0)) (zp := []) (plainElem_int Try.underlying3 (by decide)) (keyOf_int_mk Try.underlying3 hx)
  obtain ⟨c, rfl, hc, _⟩ := plainElem_int_inv Try.underlying3 hv
  have hc := congrArg Prod.fst hc
  simp only at hc
  rw [hr]
  cases e : F x with
  | none =>
    have h4 := (h3 x hx).1 e
    rw [atKey_of_not_has h4] at hc
    have hc := lit_inj hc
    rw [h4, ← hc]; rfl
  | some u =>
    obtain ⟨h4, h5⟩ := (h3 x hx).2 u e
    rw [h5] at hc
    have hc := lit_inj hc
    rw [h4, ← hc]; rfl
theorem IMap.len (h : IMap w bm F k) (ty : TypeId) : (Builtin.len_ #[152] ty #[.map (some bm)]).run Try.prog w = .ok (.int .i64 k) w := by
  obtain ⟨D, h, h2, h3⟩ := h
  rw [h.len Try.underlying152 ty, h2]

def fput (F : Int → Option Int) (x v : Int) (y : Int) : Option Int := if y = x then some v else F y
def fdel (F : Int → Option Int) (x : Int) (y : Int) : Option Int := if y = x then none else F y

theorem IMap.store (h : IMap w bm F k) (hk : k ≤ 65536) {x v : Int} (hx : Wf x) (hv : Wf v) :
    ∃ w', (Instr.mapUpdate 152 (.map (some bm)) (.int .i64 x) (.int .i64 v)).run Try.prog w = .ok () w' ∧ IMap w' bm (fput F x v) (if (F x).isSome then k else k + 1) ∧ Only (· = bm) w w' := by
  obtain ⟨D, h, h2, h3⟩ := h
  have T := h.tidy intKeyed
  obtain ⟨w', hr, h4, hg⟩ := h.update intKeyed Try.underlying152 (lt_max hk) (keyOf_int_mk Try.underlying3 hx) (plainElem_int (H := Unit) Try.underlying3 hv)
  refine ⟨w', hr, ⟨D.put (.int .i64 x) (.lit (.int .i64 v)), ?_, ?_, fun y hy => ?_⟩, Only.of_grown hg (fun r e => (Option.some.inj e).symm)⟩
  · have h5 := tight h4
    rw [size_put T] at h5
    have e : (if Maps.has D (.int .i64 x) then Maps.size D else Maps.size D + 1) = if (F x).isSome then k else k + 1 := by
      cases e : F x with
      | none => rw [(h3 x hx).1 e, h2]; rfl
      | some u => rw [((h3 x hx).2 u e).1, h2]; rfl
    rwa [e] at h5
  · rw [size_put T]
    cases e : F x with
    | none => rw [(h3 x hx).1 e, h2]; rfl
    | some u => rw [((h3 x hx).2 u e).1, h2]; rfl
  · by_cases e : y = x
    · subst e
      unfold fput
      rw [if_pos rfl]
      refine ⟨(fun h => by cases h), fun u hu => ?_⟩
      cases hu
      exact ⟨has_put_same T.isMap (IMap.key y) _, atKey_put_same T.isMap (IMap.key y) _ _⟩
    · have hne : (Lit.int .i64 y) ≠ Lit.int .i64 x := fun h => e (by injection h)
      unfold fput
      rw [if_neg e, has_put_other hne, atKey_put_other hne]
      exact h3 y hy

end
end Go.Proofs.Ytilngakgofjmpaa

/- The book, the plain side: prices with rows of numbers, and the orders that they stand for; what lies down, is taken out, is made less. No condition. -/
namespace Go.Proofs.Ytilngakgofjmpaa
set_option linter.unusedVariables false
set_option linter.unusedSimpArgs false
open Go.RowKit
open Od (OrdR Lay FreeN Blk4)

/-- The orders' numbers, price by price. -/
def nums (first : Nat) (L : List (Int × Nat)) (R : Nat → List Nat) : List Nat := L.flatMap fun x => R (first + x.2)
theorem nums_append (f : Nat) (A B : List (Int × Nat)) (R : Nat → List Nat) : nums f (A ++ B) R = nums f A R ++ nums f B R := by simp [nums]
theorem nums_cons (f : Nat) (x : Int × Nat) (B : List (Int × Nat)) (R : Nat → List Nat) : nums f (x :: B) R = R (f + x.2) ++ nums f B R := by simp [nums]
theorem mem_nums {f : Nat} {L : List (Int × Nat)} {R : Nat → List Nat} {n : Nat} : n ∈ nums f L R ↔ ∃ x ∈ L, n ∈ R (f + x.2) := by simp [nums]
theorem nums_congr {f : Nat} {L : List (Int × Nat)} {R R' : Nat → List Nat} (h : ∀ x ∈ L, R' (f + x.2) = R (f + x.2)) : nums f L R' = nums f L R := by
  induction L with
  | nil => rfl
  | cons x t ih => rw [nums_cons, nums_cons, h x (by simp), ih (fun y hy => h y (by simp [hy]))]
theorem map_upd {V : Nat → OrdR} {n : Nat} {o : OrdR} {l : List Nat} (h : n ∉ l) : l.map (Od.upd V n o) = l.map V :=
  List.map_congr_left fun m hm => Od.upd_other (fun e => h (e ▸ hm))

/-- An order more, behind all that are as good or better. -/
def insL (sg : Int) (o : OrdR) : List OrdR → List OrdR
  | [] => [o]
  | x :: t => if sg * x.p ≤ sg * o.p then x :: insL sg o t else o :: x :: t
theorem insL_mid {sg : Int} {o : OrdR} {X Y : List OrdR} (hX : ∀ x ∈ X, sg * x.p ≤ sg * o.p) (hY : ∀ y ∈ Y, ¬ sg * y.p ≤ sg * o.p) : insL sg o (X ++ Y) = X ++ o :: Y := by
  induction X with
  | nil =>
    cases Y with
    | nil => rfl
    | cons y t => simp only [List.nil_append, insL]; rw [if_neg (hY y (by simp))]
  | cons x t ih =>
    simp only [List.cons_append, insL]
    rw [if_pos (hX x (by simp)), ih (fun y hy => hX y (by simp [hy]))]
theorem insL_perm (sg : Int) (o : OrdR) (l : List OrdR) : (insL sg o l).Perm (o :: l) := by
  induction l with
  | nil => exact List.Perm.refl _
  | cons x t ih =>
    simp only [insL]
    split
    · exact (List.Perm.cons x ih).trans (List.Perm.swap _ _ _)
    · exact List.Perm.refl _
/-- One less. -/
def delL (id : Int) (l : List OrdR) : List OrdR := l.filter fun o => decide (o.i ≠ id)
/-- Another one in its place. -/
def setL (id : Int) (o : OrdR) (l : List OrdR) : List OrdR := l.map fun x => if x.i = id then o else x

theorem delL_not {id : Int} {l : List OrdR} (h : ∀ o ∈ l, o.i ≠ id) : delL id l = l := List.filter_eq_self.2 fun o ho => by simpa using h o ho

/-! ### The two sides: false is Buy, true is Sell -/
def sgn (q : Bool) : Int := if q then 1 else -1
def sdN (q : Bool) : Int := if q then 2 else 1
def fst (most : Nat) (q : Bool) : Nat := if q then most else 0
def setS {α : Type} (f : Bool → α) (q : Bool) (x : α) : Bool → α := fun k => if k = q then x else f k
theorem setS_same {α : Type} (f : Bool → α) (q : Bool) (x : α) : setS f q x q = x := if_pos rfl
theorem setS_other {α : Type} {f : Bool → α} {q k : Bool} {x : α} (h : k ≠ q) : setS f q x k = f k := if_neg h
theorem sgn_or (q : Bool) : sgn q = 1 ∨ sgn q = -1 := by cases q <;> simp [sgn]
theorem fst_le (most : Nat) (q : Bool) : fst most q ≤ most := by cases q <;> simp [fst]
theorem fst_ne {most : Nat} {q k : Bool} (h : k ≠ q) {r s : Nat} (hr : r < most) (hs : s < most) : fst most k + r ≠ fst most q + s := by cases q <;> cases k <;> simp [fst] at h ⊢ <;> omega

/-- One half: its prices' rows hold orders of that price and side; the other rows are empty. -/
structure Half (side : Int) (first most : Nat) (L : List (Int × Nat)) (R : Nat → List Nat) (V : Nat → OrdR) : Prop where
  ne : ∀ x ∈ L, R (first + x.2) ≠ []
  pr : ∀ x ∈ L, ∀ n ∈ R (first + x.2), (V n).p = x.1 ∧ (V n).s = side
  em : ∀ r, r < most → r ∉ L.map Prod.snd → R (first + r) = []

/-- What an order that rests is. -/
def Okd (o : OrdR) : Prop := 1 ≤ o.i ∧ o.i ≤ 9223372036854775807 ∧ 1 ≤ o.c ∧ o.c ≤ 8 ∧ 1 ≤ o.p ∧ o.p ≤ 1000000000 ∧ 1 ≤ o.q ∧ o.q ≤ 1000000000

theorem Half.congr {side : Int} {first most : Nat} {L : List (Int × Nat)} {R R' : Nat → List Nat} {V V' : Nat → OrdR} (h : Half side first most L R V) (lt : ∀ x ∈ L, x.2 < most) (hR : ∀ r, r < most → R' (first + r) = R (first + r)) (hV : ∀ m ∈ nums first L R, V' m = V m) : Half side first most L R' V' :=
  ⟨fun x hx => by rw [hR _ (lt x hx)]; exact h.ne x hx, fun x hx n hn => by
    rw [hR _ (lt x hx)] at hn
    rw [hV n (mem_nums.2 ⟨x, hx, hn⟩)]
    exact h.pr x hx n hn, fun r hr hm => by rw [hR r hr]; exact h.em r hr hm⟩

section
variable {side sg : Int} {first most : Nat} {L : List (Int × Nat)} {R : Nat → List Nat} {V : Nat → OrdR}

theorem mem_split_snd {p : Int} {r : Nat} (hn : (L.map Prod.snd).Nodup) (hx : (p, r) ∈ L) : ∃ A C, L = A ++ (p, r) :: C ∧ (∀ x ∈ A, x.2 ≠ r) ∧ (∀ x ∈ C, x.2 ≠ r) := by
  obtain ⟨A, C, rfl⟩ := List.append_of_mem hx
  rw [List.map_append, List.map_cons] at hn
  have h2 := List.nodup_append.1 hn
  have h3 := List.nodup_cons.1 h2.2.1
  exact ⟨A, C, rfl, fun x hx e => h2.2.2 _ (List.mem_map.2 ⟨x, hx, rfl⟩) _ (by simp) e, fun x hx e => h3.1 (List.mem_map.2 ⟨x, hx, e⟩)⟩
theorem Half.price (h : Half side first most L R V) {A : List (Int × Nat)} (hA : ∀ x ∈ A, x ∈ L) {o : OrdR} (ho : o ∈ (nums first A R).map V) : ∃ x ∈ A, o.p = x.1 := by
  obtain ⟨n, hn, rfl⟩ := List.mem_map.1 ho
  obtain ⟨x, hx, hm⟩ := mem_nums.1 hn
  exact ⟨x, hx, (h.pr x (hA x hx) n hm).1⟩

/-- Behind a price that is there. -/
theorem Half.push (h : Half side first most L R V) (hs : Srt sg L) (hn : (L.map Prod.snd).Nodup) {o : OrdR} {r n : Nat} (hx : (o.p, r) ∈ L) (hside : o.s = side) (hfree : n ∉ nums first L R) :
    Half side first most L (Od.upd R (first + r) (R (first + r) ++ [n])) (Od.upd V n o) ∧ (nums first L (Od.upd R (first + r) (R (first + r) ++ [n]))).map (Od.upd V n o) = insL sg o ((nums first L R).map V) ∧
      (∀ m, m ∈ nums first L (Od.upd R (first + r) (R (first + r) ++ [n])) ↔ m = n ∨ m ∈ nums first L R) := by
  obtain ⟨A, C, hL, hA, hC⟩ := mem_split_snd hn hx
  have cA : nums first A (Od.upd R (first + r) (R (first + r) ++ [n])) = nums first A R := nums_congr fun x hx => Od.upd_other (by have := hA x hx; omega)
  have cC : nums first C (Od.upd R (first + r) (R (first + r) ++ [n])) = nums first C R := nums_congr fun x hx => Od.upd_other (by have := hC x hx; omega)
  have e0 : nums first L R = nums first A R ++ R (first + r) ++ nums first C R := by rw [hL, nums_append, nums_cons, List.append_assoc]
  have e1 : nums first L (Od.upd R (first + r) (R (first + r) ++ [n])) = nums first A R ++ R (first + r) ++ n :: nums first C R := by
    rw [hL, nums_append, nums_cons, cA, cC]
    show _ ++ (Od.upd R (first + r) _ (first + r) ++ _) = _
    rw [Od.upd_same]
    simp
  have hfree' := hfree
  rw [e0] at hfree'
  simp only [List.mem_append, not_or] at hfree'
  have srt := hs
  rw [hL] at srt
  have s2 := List.pairwise_append.1 srt
  have s3 := List.pairwise_cons.1 s2.2.1
  refine ⟨⟨fun x hx' => ?_, fun x hx' m hm => ?_, fun k hk hm => ?_⟩, ?_, fun m => ?_⟩
  · by_cases e : x.2 = r
    · rw [e, Od.upd_same]; simp
    · rw [Od.upd_other (by omega)]; exact h.ne x hx'
  · by_cases e : x.2 = r
    · rw [e, Od.upd_same, List.mem_append] at hm
      have ex : x = (o.p, r) := by
        rw [hL] at hx'
        rcases List.mem_append.1 hx' with hx' | hx'
        · exact absurd e (hA x hx')
        · rcases List.mem_cons.1 hx' with hx' | hx'
          · exact hx'
          · exact absurd e (hC x hx')
      rcases hm with hm | hm
      · have hne : m ≠ n := fun e' => hfree (e' ▸ mem_nums.2 ⟨x, hx', by rw [e]; exact hm⟩)
        rw [Od.upd_other hne]
        exact h.pr x hx' m (by rw [e]; exact hm)
      · have : m = n := by simpa using hm
        subst this
        rw [Od.upd_same, ex]
        exact ⟨rfl, hside⟩
    · rw [Od.upd_other (by omega)] at hm
      have hne : m ≠ n := fun e' => hfree (e' ▸ mem_nums.2 ⟨x, hx', hm⟩)
      rw [Od.upd_other hne]
      exact h.pr x hx' m hm
  · by_cases e : k = r
    · subst e; exact absurd (List.mem_map.2 ⟨_, hx, rfl⟩) hm
    · rw [Od.upd_other (by omega)]; exact h.em k hk hm
  · rw [e0, e1, List.map_append, List.map_cons, Od.upd_same, map_upd (by simp only [List.mem_append, not_or]; exact hfree'.1), map_upd hfree'.2, List.map_append (l₁ := nums first A R ++ R (first + r))]
    refine (insL_mid (fun y hy => ?_) (fun y hy => ?_)).symm
    · rw [List.map_append] at hy
      rcases List.mem_append.1 hy with hy | hy
      · obtain ⟨x, hx', e⟩ := h.price (A := A) (fun x hx' => by rw [hL]; simp [hx']) hy
        have := s2.2.2 x hx' (o.p, r) (by simp)
        simp only at this
        rw [e]; omega
      · obtain ⟨m, hm, rfl⟩ := List.mem_map.1 hy
        rw [(h.pr _ hx m hm).1]
        simp
    · obtain ⟨x, hx', e⟩ := h.price (A := C) (fun x hx' => by rw [hL]; simp [hx']) hy
      have := s3.1 x hx'
      simp only at this
      rw [e]; omega
  · rw [e0, e1]
    simp only [List.mem_append, List.mem_cons]
    constructor
    · rintro ((h1 | h1) | h1 | h1)
      · exact .inr (.inl (.inl h1))
      · exact .inr (.inl (.inr h1))
      · exact .inl h1
      · exact .inr (.inr h1)
    · rintro (h1 | (h1 | h1) | h1)
      · exact .inr (.inl h1)
      · exact .inl (.inl h1)
      · exact .inl (.inr h1)
      · exact .inr (.inr h1)

/-- A price that was not there. -/
theorem Half.pushNew (h : Half side first most L R V) (hs : Srt sg L) (lt : ∀ x ∈ L, x.2 < most) {o : OrdR} {r n : Nat} (hp : has o.p L = false) (hsg : sg = 1 ∨ sg = -1) (hr : r < most) (hrn : r ∉ L.map Prod.snd) (hside : o.s = side) (hfree : n ∉ nums first L R) :
    Half side first most (put sg o.p r L) (Od.upd R (first + r) (R (first + r) ++ [n])) (Od.upd V n o) ∧ (nums first (put sg o.p r L) (Od.upd R (first + r) (R (first + r) ++ [n]))).map (Od.upd V n o) = insL sg o ((nums first L R).map V) ∧
      (∀ m, m ∈ nums first (put sg o.p r L) (Od.upd R (first + r) (R (first + r) ++ [n])) ↔ m = n ∨ m ∈ nums first L R) := by
  have hr0 := h.em r hr hrn
  rw [hr0, List.nil_append]
  have nr : ∀ x ∈ L, x.2 ≠ r := fun x hx e => hrn (List.mem_map.2 ⟨x, hx, e⟩)
  have cc : ∀ X : List (Int × Nat), (∀ x ∈ X, x ∈ L) → nums first X (Od.upd R (first + r) [n]) = nums first X R := fun X hX => nums_congr fun x hx => Od.upd_other (by have := nr x (hX x hx); omega)
  have mt : ∀ x ∈ L.take (pos sg o.p L), x ∈ L := fun x hx => List.mem_of_mem_take hx
  have md : ∀ x ∈ L.drop (pos sg o.p L), x ∈ L := fun x hx => List.mem_of_mem_drop hx
  have e0 : nums first L R = nums first (L.take (pos sg o.p L)) R ++ nums first (L.drop (pos sg o.p L)) R := by rw [← nums_append, List.take_append_drop]
  have e1 : nums first (put sg o.p r L) (Od.upd R (first + r) [n]) = nums first (L.take (pos sg o.p L)) R ++ n :: nums first (L.drop (pos sg o.p L)) R := by
    unfold put
    rw [nums_append, nums_append, cc _ mt, cc _ md, nums_cons]
    show _ ++ (Od.upd R (first + r) [n] (first + r) ++ []) ++ _ = _
    rw [Od.upd_same]
    simp
  have hfree' := hfree
  rw [e0, List.mem_append, not_or] at hfree'
  refine ⟨⟨fun x hx => ?_, fun x hx m hm => ?_, fun k hk hm => ?_⟩, ?_, fun m => ?_⟩
  · rcases put_mem.1 hx with rfl | hx
    · show Od.upd R (first + r) [n] (first + r) ≠ []
      rw [Od.upd_same]; simp
    · rw [Od.upd_other (by have := nr x hx; omega)]; exact h.ne x hx
  · rcases put_mem.1 hx with rfl | hx
    · have hm : m ∈ Od.upd R (first + r) [n] (first + r) := hm
      rw [Od.upd_same] at hm
      have : m = n := by simpa using hm
      subst this
      rw [Od.upd_same]
      exact ⟨rfl, hside⟩
    · rw [Od.upd_other (by have := nr x hx; omega)] at hm
      have hne : m ≠ n := fun e' => hfree (e' ▸ mem_nums.2 ⟨x, hx, hm⟩)
      rw [Od.upd_other hne]
      exact h.pr x hx m hm
  · have hkr : k ≠ r := fun e => hm (List.mem_map.2 ⟨(o.p, r), put_mem.2 (.inl rfl), e.symm⟩)
    rw [Od.upd_other (by omega)]
    exact h.em k hk fun h' => by
      obtain ⟨x, hx, e⟩ := List.mem_map.1 h'
      exact hm (List.mem_map.2 ⟨x, put_mem.2 (.inr hx), e⟩)
  · rw [e0, e1, List.map_append, List.map_cons, Od.upd_same, map_upd hfree'.1, map_upd hfree'.2, List.map_append]
    refine (insL_mid (fun y hy => ?_) (fun y hy => ?_)).symm
    · obtain ⟨x, hx, e⟩ := h.price mt hy
      have := take_pos hs hx
      rw [e]; omega
    · obtain ⟨x, hx, e⟩ := h.price md hy
      have h1 := drop_pos hs hx
      have hne : x.1 ≠ o.p := fun e' => by
        have : has o.p L = true := has_iff.2 ⟨x, md x hx, e'⟩
        rw [hp] at this; cases this
      have : sg * x.1 ≠ sg * o.p := fun e' => hne (sg_inj hsg e')
      rw [e]; omega
  · rw [e0, e1]
    simp only [List.mem_append, List.mem_cons]
    constructor
    · rintro (h1 | h1 | h1)
      · exact .inr (.inl h1)
      · exact .inl h1
      · exact .inr (.inr h1)
    · rintro (h1 | h1 | h1)
      · exact .inr (.inl h1)
      · exact .inl h1
      · exact .inr (.inr h1)
end
end Go.Proofs.Ytilngakgofjmpaa

/- The book, the plain side: what takes an order out, what makes it less; the whole book's relation. No condition. -/
namespace Go.Proofs.Ytilngakgofjmpaa
set_option linter.unusedVariables false
set_option linter.unusedSimpArgs false
open Go.RowKit
open Od (OrdR Lay FreeN Blk4)

section
variable {side sg : Int} {first most : Nat} {L : List (Int × Nat)} {R : Nat → List Nat} {V : Nat → OrdR}
theorem split_at {α : Type} {L : List α} {k : Nat} {x : α} (hx : L[k]? = some x) : L = L.take k ++ x :: L.drop (k + 1) := by
  have hk := (List.getElem?_eq_some_iff.1 hx).1
  have h1 := List.take_append_drop k L
  rw [List.drop_eq_getElem_cons hk, (List.getElem?_eq_some_iff.1 hx).2] at h1
  exact h1.symm

/-- One is taken out, its price stays. -/
theorem Half.take (h : Half side first most L R V) (hn : (L.map Prod.snd).Nodup) {p : Int} {r n : Nat} {l1 l2 : List Nat} {z : OrdR} (hx : (p, r) ∈ L) (hR : R (first + r) = l1 ++ n :: l2) (hl : l1 ++ l2 ≠ []) (hnd : (nums first L R).Nodup) :
    Half side first most L (Od.upd R (first + r) (l1 ++ l2)) (Od.upd V n z) ∧ ∃ A C, nums first L R = A ++ n :: C ∧ nums first L (Od.upd R (first + r) (l1 ++ l2)) = A ++ C := by
  obtain ⟨A, C, hL, hA, hC⟩ := mem_split_snd hn hx
  have cA : nums first A (Od.upd R (first + r) (l1 ++ l2)) = nums first A R := nums_congr fun x hx => Od.upd_other (by have := hA x hx; omega)
  have cC : nums first C (Od.upd R (first + r) (l1 ++ l2)) = nums first C R := nums_congr fun x hx => Od.upd_other (by have := hC x hx; omega)
  have e0 : nums first L R = (nums first A R ++ l1) ++ n :: (l2 ++ nums first C R) := by rw [hL, nums_append, nums_cons, hR]; simp
  have e1 : nums first L (Od.upd R (first + r) (l1 ++ l2)) = (nums first A R ++ l1) ++ (l2 ++ nums first C R) := by
    rw [hL, nums_append, nums_cons, cA, cC]
    show _ ++ (Od.upd R (first + r) _ (first + r) ++ _) = _
    rw [Od.upd_same]; simp
  refine ⟨⟨fun x hx' => ?_, fun x hx' m hm => ?_, fun k hk hm => ?_⟩, _, _, e0, e1⟩
  · by_cases e : x.2 = r
    · rw [e, Od.upd_same]; exact hl
    · rw [Od.upd_other (by omega)]; exact h.ne x hx'
  · have hm2 : m ∈ R (first + x.2) := by
      by_cases e : x.2 = r
      · rw [e, Od.upd_same] at hm
        rw [e, hR]
        simp only [List.mem_append, List.mem_cons] at hm ⊢
        rcases hm with h1 | h1
        · exact .inl h1
        · exact .inr (.inr h1)
      · rwa [Od.upd_other (by omega)] at hm
    have hne : m ≠ n := by
      rintro rfl
      have hm3 : m ∈ nums first L (Od.upd R (first + r) (l1 ++ l2)) := mem_nums.2 ⟨x, hx', hm⟩
      rw [e1] at hm3
      rw [e0] at hnd
      have h2 := List.nodup_append.1 hnd
      have h3 := List.nodup_cons.1 h2.2.1
      rcases List.mem_append.1 hm3 with h4 | h4
      · exact h2.2.2 _ h4 _ (by simp) rfl
      · exact h3.1 h4
    rw [Od.upd_other hne]
    exact h.pr x hx' m hm2
  · by_cases e : k = r
    · subst e; exact absurd (List.mem_map.2 ⟨_, hx, rfl⟩) hm
    · rw [Od.upd_other (by omega)]; exact h.em k hk hm

/-- The last one of its price is taken out. -/
theorem Half.cut (h : Half side first most L R V) (hn : (L.map Prod.snd).Nodup) {p : Int} {k r n : Nat} {z : OrdR} (hx : L[k]? = some (p, r)) (hR : R (first + r) = [n]) (hnd : (nums first L R).Nodup) :
    Half side first most (cutAt k L) (Od.upd R (first + r) []) (Od.upd V n z) ∧ ∃ A C, nums first L R = A ++ n :: C ∧ nums first (cutAt k L) (Od.upd R (first + r) []) = A ++ C := by
  have hL := split_at hx
  have hn' := hn
  rw [hL, List.map_append, List.map_cons] at hn'
  have h2 := List.nodup_append.1 hn'
  have h3 := List.nodup_cons.1 h2.2.1
  have hA : ∀ x ∈ L.take k, x.2 ≠ r := fun x hx e => h2.2.2 _ (List.mem_map.2 ⟨x, hx, rfl⟩) _ (by simp) e
  have hC : ∀ x ∈ L.drop (k + 1), x.2 ≠ r := fun x hx e => h3.1 (List.mem_map.2 ⟨x, hx, e⟩)
  have cA : nums first (L.take k) (Od.upd R (first + r) []) = nums first (L.take k) R := nums_congr fun x hx => Od.upd_other (by have := hA x hx; omega)
  have cC : nums first (L.drop (k + 1)) (Od.upd R (first + r) []) = nums first (L.drop (k + 1)) R := nums_congr fun x hx => Od.upd_other (by have := hC x hx; omega)
  have e0 : nums first L R = nums first (L.take k) R ++ n :: nums first (L.drop (k + 1)) R := by
    conv => lhs; rw [hL]
    rw [nums_append, nums_cons, hR]; rfl
  have e1 : nums first (cutAt k L) (Od.upd R (first + r) []) = nums first (L.take k) R ++ nums first (L.drop (k + 1)) R := by
    unfold cutAt
    rw [nums_append, cA, cC]
  have sub : ∀ x ∈ cutAt k L, x ∈ L ∧ x.2 ≠ r := fun x hx => by
    unfold cutAt at hx
    rcases List.mem_append.1 hx with h4 | h4
    · exact ⟨List.mem_of_mem_take h4, hA x h4⟩
    · exact ⟨List.mem_of_mem_drop h4, hC x h4⟩
  refine ⟨⟨fun x hx' => ?_, fun x hx' m hm => ?_, fun j hj hm => ?_⟩, _, _, e0, e1⟩
  · obtain ⟨h4, h5⟩ := sub x hx'
    rw [Od.upd_other (by omega)]; exact h.ne x h4
  · obtain ⟨h4, h5⟩ := sub x hx'
    have hm1 := hm
    rw [Od.upd_other (by omega)] at hm
    have hne : m ≠ n := by
      rintro rfl
      have hm3 : m ∈ nums first (cutAt k L) (Od.upd R (first + r) []) := mem_nums.2 ⟨x, hx', hm1⟩
      rw [e1] at hm3
      rw [e0] at hnd
      have h2 := List.nodup_append.1 hnd
      have h3 := List.nodup_cons.1 h2.2.1
      rcases List.mem_append.1 hm3 with h4 | h4
      · exact h2.2.2 _ h4 _ (by simp) rfl
      · exact h3.1 h4
    rw [Od.upd_other hne]
    exact h.pr x h4 m hm
  · by_cases e : j = r
    · subst e; rw [Od.upd_same]
    · rw [Od.upd_other (by omega)]
      refine h.em j hj fun h' => ?_
      obtain ⟨x, hx', e'⟩ := List.mem_map.1 h'
      rw [hL] at hx'
      rcases List.mem_append.1 hx' with h4 | h4
      · exact hm (List.mem_map.2 ⟨x, by unfold cutAt; simp [h4], e'⟩)
      · rcases List.mem_cons.1 h4 with h4 | h4
        · subst h4; exact e e'.symm
        · exact hm (List.mem_map.2 ⟨x, by unfold cutAt; simp [h4], e'⟩)

/-- One is written anew, at its price and side. -/
theorem Half.set (h : Half side first most L R V) {n : Nat} {o : OrdR} (hp : o.p = (V n).p) (hs : o.s = (V n).s) : Half side first most L R (Od.upd V n o) :=
  ⟨h.ne, fun x hx m hm => by
    by_cases e : m = n
    · subst e; rw [Od.upd_same, hp, hs]; exact h.pr x hx m hm
    · rw [Od.upd_other e]; exact h.pr x hx m hm, h.em⟩
end

/-- The book: prices with rows of numbers (L, R, V), numbers of orders (F), and the orders that they stand for (l). -/
structure BkRep (most room : Nat) (L : Bool → List (Int × Nat)) (R : Nat → List Nat) (V : Nat → OrdR) (F : Int → Option Int) (l : Bool → List OrdR) : Prop where
  e : ∀ q, l q = (nums (fst most q) (L q) R).map V
  half : ∀ q, Half (sdN q) (fst most q) most (L q) R V
  h3 : R (2 * most) = []
  ids : ((l false ++ l true).map OrdR.i).Nodup
  fi : ∀ id, Wf id → ∀ v, F id = some v ↔ ∃ m : Nat, v = m ∧ (∃ q, m ∈ nums (fst most q) (L q) R) ∧ (V m).i = id
  ok : ∀ q, ∀ o ∈ l q, Okd o
  len : (l false).length + (l true).length ≤ room
  lt : ∀ q, ∀ x ∈ L q, x.2 < most

theorem Okd.wf {o : OrdR} (h : Okd o) : Wf o.i := wf_of (by have := h.1; omega) h.2.1

section
variable {most room : Nat} {L : Bool → List (Int × Nat)} {R : Nat → List Nat} {V : Nat → OrdR} {F : Int → Option Int} {l : Bool → List OrdR}

theorem nodup_of_map {α β : Type} {f : α → β} {l : List α} (h : (l.map f).Nodup) : l.Nodup := List.Pairwise.of_map f (fun a b hne e => hne (congrArg f e)) h
theorem BkRep.ids1 (h : BkRep most room L R V F l) (q : Bool) : ((l q).map OrdR.i).Nodup := by
  have h1 := h.ids
  rw [List.map_append] at h1
  have h2 := List.nodup_append.1 h1
  cases q
  · exact h2.1
  · exact h2.2.1
theorem BkRep.idsNe (h : BkRep most room L R V F l) {q k : Bool} (hq : k ≠ q) {o p : OrdR} (ho : o ∈ l q) (hp : p ∈ l k) : o.i ≠ p.i := by
  have h1 := h.ids
  rw [List.map_append] at h1
  have h2 := (List.nodup_append.1 h1).2.2
  cases q <;> cases k <;> simp at hq
  · exact h2 _ (List.mem_map.2 ⟨o, ho, rfl⟩) _ (List.mem_map.2 ⟨p, hp, rfl⟩)
  · exact fun e => h2 _ (List.mem_map.2 ⟨p, hp, rfl⟩) _ (List.mem_map.2 ⟨o, ho, rfl⟩) e.symm
theorem BkRep.nd (h : BkRep most room L R V F l) (q : Bool) : (nums (fst most q) (L q) R).Nodup := by
  have h1 := h.ids1 q
  rw [h.e q] at h1
  exact nodup_of_map (nodup_of_map h1)
theorem BkRep.mem (h : BkRep most room L R V F l) {q : Bool} {n : Nat} (hn : n ∈ nums (fst most q) (L q) R) : V n ∈ l q := by
  rw [h.e q]; exact List.mem_map.2 ⟨n, hn, rfl⟩
theorem BkRep.side (h : BkRep most room L R V F l) {q : Bool} {n : Nat} (hn : n ∈ nums (fst most q) (L q) R) : (V n).s = sdN q := by
  obtain ⟨x, hx, hm⟩ := mem_nums.1 hn
  exact ((h.half q).pr x hx n hm).2
theorem BkRep.sides (h : BkRep most room L R V F l) {q : Bool} {o : OrdR} (ho : o ∈ l q) : o.s = sdN q := by
  rw [h.e q] at ho
  obtain ⟨n, hn, rfl⟩ := List.mem_map.1 ho
  exact h.side hn
/-- Two numbers of orders with the same id are one. -/
theorem BkRep.inj (h : BkRep most room L R V F l) {q k : Bool} {n m : Nat} (hn : n ∈ nums (fst most q) (L q) R) (hm : m ∈ nums (fst most k) (L k) R) (e : (V n).i = (V m).i) : n = m ∧ q = k := by
  by_cases hq : k = q
  · subst hq
    refine ⟨?_, rfl⟩
    have h1 := h.ids1 k
    rw [h.e k, List.map_map] at h1
    obtain ⟨i, hi⟩ := List.mem_iff_getElem?.1 hn
    obtain ⟨j, hj⟩ := List.mem_iff_getElem?.1 hm
    have hi' := (List.getElem?_eq_some_iff.1 hi)
    have hj' := (List.getElem?_eq_some_iff.1 hj)
    obtain ⟨i1, i2⟩ := hi'
    obtain ⟨j1, j2⟩ := hj'
    have key := List.pairwise_iff_getElem.1 h1
    rcases Nat.lt_trichotomy i j with hlt | rfl | hgt
    · have := key i j (by simpa using i1) (by simpa using j1) hlt
      simp only [List.getElem_map, i2, j2, Function.comp] at this
      exact absurd e this
    · rw [← i2, ← j2]
    · have := key j i (by simpa using j1) (by simpa using i1) hgt
      simp only [List.getElem_map, i2, j2, Function.comp] at this
      exact absurd e.symm this
  · exact absurd e (h.idsNe hq (h.mem hn) (h.mem hm))

/-- What is known of a number that the map tells. -/
theorem BkRep.found (h : BkRep most room L R V F l) {id v : Int} (hw : Wf id) (hf : F id = some v) : ∃ (m : Nat) (q : Bool), v = m ∧ m ∈ nums (fst most q) (L q) R ∧ (V m).i = id ∧ V m ∈ l q := by
  obtain ⟨m, h1, ⟨q, h2⟩, h3⟩ := (h.fi id hw v).1 hf
  exact ⟨m, q, h1, h2, h3, h.mem h2⟩
theorem BkRep.missed (h : BkRep most room L R V F l) {id : Int} (hw : Wf id) (hf : F id = none) (q : Bool) : ∀ o ∈ l q, o.i ≠ id := by
  intro o ho e
  rw [h.e q] at ho
  obtain ⟨m, hm, rfl⟩ := List.mem_map.1 ho
  have := (h.fi id hw m).2 ⟨m, rfl, ⟨q, hm⟩, e⟩
  rw [hf] at this; cases this

/-- A row's number is an order's. -/
theorem BkRep.rows (h : BkRep most room L R V F l) {r n : Nat} (hr : r < 2 * most + 1) (hn : n ∈ R r) : ∃ q, n ∈ nums (fst most q) (L q) R := by
  have key : ∀ q r', r' < most → n ∈ R (fst most q + r') → n ∈ nums (fst most q) (L q) R := fun q r' hr' hm => by
    by_cases e : r' ∈ (L q).map Prod.snd
    · obtain ⟨x, hx, rfl⟩ := List.mem_map.1 e
      exact mem_nums.2 ⟨x, hx, hm⟩
    · rw [(h.half q).em r' hr' e] at hm; cases hm
  by_cases h1 : r < most
  · exact ⟨false, key false r h1 (by simpa [fst] using hn)⟩
  · by_cases h2 : r = 2 * most
    · subst h2; rw [h.h3] at hn; cases hn
    · exact ⟨true, key true (r - most) (by omega) (by rw [show fst most true + (r - most) = r by simp [fst]; omega]; exact hn)⟩

theorem least_of {P : Nat → Prop} : ∀ n, P n → ∃ m, P m ∧ m ≤ n ∧ ∀ k, P k → m ≤ k := by
  intro n
  induction n using Nat.strongRecOn with
  | ind n ih =>
    intro hn
    rcases Classical.em (∃ k, k < n ∧ P k) with ⟨k, hk, hp⟩ | h1
    · obtain ⟨m, h2, h3, h4⟩ := ih k hk hp
      exact ⟨m, h2, by omega, h4⟩
    · exact ⟨n, hn, Nat.le_refl _, fun k hk => by
        rcases Nat.lt_or_ge k n with h2 | h2
        · exact absurd ⟨k, h2, hk⟩ h1
        · exact h2⟩
/-- Where there is room, a number is free. -/
theorem BkRep.free (h : BkRep most room L R V F l) (hroom : (l false).length + (l true).length < room) :
    ∃ n, FreeN (2 * most + 1) room R n ∧ (∀ m, FreeN (2 * most + 1) room R m → n ≤ m) ∧ ∀ q, n ∉ nums (fst most q) (L q) R := by
  have e1 : ∃ n, n < room ∧ n ∉ nums (fst most false) (L false) R ++ nums (fst most true) (L true) R := by
    rcases Classical.em (∃ n, n < room ∧ n ∉ nums (fst most false) (L false) R ++ nums (fst most true) (L true) R) with h1 | h1
    · exact h1
    · have := Go.Proofs.Ytilngakgofjmpaa.nodup_len (List.range room) (nums (fst most false) (L false) R ++ nums (fst most true) (L true) R) List.nodup_range (fun x hx => by
        rcases Classical.em (x ∈ nums (fst most false) (L false) R ++ nums (fst most true) (L true) R) with h2 | h2
        · exact h2
        · exact absurd ⟨x, by simpa using hx, h2⟩ h1)
      have e1 := congrArg List.length (h.e false)
      have e2 := congrArg List.length (h.e true)
      simp only [List.length_map, List.length_append, List.length_range] at *
      omega
  obtain ⟨n0, h1, h2⟩ := e1
  have f0 : FreeN (2 * most + 1) room R n0 := ⟨h1, fun r hr hm => by
    obtain ⟨q, hq⟩ := h.rows hr hm
    exact h2 (List.mem_append.2 (by cases q; exact .inl hq; exact .inr hq))⟩
  obtain ⟨n, h3, _, h4⟩ := least_of (P := FreeN (2 * most + 1) room R) n0 f0
  exact ⟨n, h3, h4, fun q hq => by
    obtain ⟨x, hx, hm⟩ := mem_nums.1 hq
    exact h3.2 _ (by have := fst_le most q; have := h.lt q x hx; omega) hm⟩

theorem insL_mem {sg : Int} {o x : OrdR} {l : List OrdR} : x ∈ insL sg o l ↔ x = o ∨ x ∈ l := by rw [(insL_perm sg o l).mem_iff, List.mem_cons]

theorem BkRep.insert (h : BkRep most room L R V F l) {q : Bool} {o : OrdR} {n : Nat} {L' : List (Int × Nat)} {R' : Nat → List Nat} (hH : Half (sdN q) (fst most q) most L' R' (Od.upd V n o))
    (hmap : (nums (fst most q) L' R').map (Od.upd V n o) = insL (sgn q) o (l q)) (hmem : ∀ m, m ∈ nums (fst most q) L' R' ↔ m = n ∨ m ∈ nums (fst most q) (L q) R) (hlt : ∀ x ∈ L', x.2 < most)
    (hoth : ∀ k, k ≠ q → ∀ r, r < most → R' (fst most k + r) = R (fst most k + r)) (h3 : R' (2 * most) = []) (hn : ∀ k, n ∉ nums (fst most k) (L k) R) (ok : Okd o) (tw : F o.i = none) (hroom : (l false).length + (l true).length < room) :
    BkRep most room (setS L q L') R' (Od.upd V n o) (fput F o.i n) (setS l q (insL (sgn q) o (l q))) := by
  have same : ∀ k, k ≠ q → nums (fst most k) (L k) R' = nums (fst most k) (L k) R := fun k hk => nums_congr fun x hx => hoth k hk _ (h.lt k x hx)
  have mem : ∀ m, (∃ k, m ∈ nums (fst most k) (setS L q L' k) R') ↔ m = n ∨ ∃ k, m ∈ nums (fst most k) (L k) R := by
    intro m
    constructor
    · rintro ⟨k, hk⟩
      by_cases e : k = q
      · subst e
        rw [setS_same] at hk
        rcases (hmem m).1 hk with h1 | h1
        · exact .inl h1
        · exact .inr ⟨k, h1⟩
      · rw [setS_other e, same k e] at hk; exact .inr ⟨k, hk⟩
    · rintro (h1 | ⟨k, h1⟩)
      · exact ⟨q, by rw [setS_same]; exact (hmem m).2 (.inl h1)⟩
      · by_cases e : k = q
        · subst e; exact ⟨k, by rw [setS_same]; exact (hmem m).2 (.inr h1)⟩
        · exact ⟨k, by rw [setS_other e, same k e]; exact h1⟩
  have missed := fun k => h.missed ok.wf tw k
  refine ⟨fun k => ?_, fun k => ?_, h3, ?_, fun id hw v => ?_, fun k x hx => ?_, ?_, fun k x hx => ?_⟩
  · by_cases e : k = q
    · subst e; rw [setS_same, setS_same, hmap]
    · rw [setS_other e, setS_other e, same k e, map_upd (hn k)]; exact h.e k
  · by_cases e : k = q
    · subst e; rw [setS_same]; exact hH
    · rw [setS_other e]
      exact (h.half k).congr (h.lt k) (hoth k e) (fun m hm => Od.upd_other (fun e' => hn k (e' ▸ hm)))
  · have hp : ((setS l q (insL (sgn q) o (l q)) false) ++ (setS l q (insL (sgn q) o (l q)) true)).Perm (o :: (l false ++ l true)) := by
      cases q
      · rw [setS_same, setS_other (by decide)]
        exact (insL_perm _ o (l false)).append_right _
      · rw [setS_same, setS_other (by decide)]
        exact ((insL_perm _ o (l true)).append_left _).trans List.perm_middle
    refine ((hp.map OrdR.i).nodup_iff).2 ?_
    rw [List.map_cons, List.nodup_cons]
    refine ⟨fun hm => ?_, h.ids⟩
    obtain ⟨x, hx, e⟩ := List.mem_map.1 hm
    rcases List.mem_append.1 hx with h1 | h1
    · exact missed false x h1 e
    · exact missed true x h1 e
  · unfold fput
    by_cases e : id = o.i
    · subst e
      rw [if_pos rfl]
      constructor
      · intro h1
        cases h1
        exact ⟨n, rfl, (mem n).2 (.inl rfl), by rw [Od.upd_same]⟩
      · rintro ⟨m, rfl, h1, h2⟩
        rcases (mem m).1 h1 with rfl | ⟨k, h3⟩
        · rfl
        · rw [Od.upd_other (show m ≠ n from fun e => hn k (e ▸ h3))] at h2
          exact absurd h2 (missed k _ (h.mem h3))
    · rw [if_neg e, h.fi id hw v]
      constructor
      · rintro ⟨m, rfl, ⟨k, h1⟩, h2⟩
        exact ⟨m, rfl, (mem m).2 (.inr ⟨k, h1⟩), by rw [Od.upd_other (show m ≠ n from fun e => hn k (e ▸ h1))]; exact h2⟩
      · rintro ⟨m, rfl, h1, h2⟩
        rcases (mem m).1 h1 with rfl | ⟨k, h3⟩
        · rw [Od.upd_same] at h2; exact absurd h2.symm e
        · rw [Od.upd_other (show m ≠ n from fun e => hn k (e ▸ h3))] at h2
          exact ⟨m, rfl, ⟨k, h3⟩, h2⟩
  · by_cases e : k = q
    · subst e
      rw [setS_same] at hx
      rcases insL_mem.1 hx with rfl | hx
      · exact ok
      · exact h.ok k x hx
    · rw [setS_other e] at hx; exact h.ok k x hx
  · have h1 := (insL_perm (sgn q) o (l q)).length_eq
    rw [List.length_cons] at h1
    cases q
    · rw [setS_same, setS_other (by decide)]; omega
    · rw [setS_same, setS_other (by decide)]; omega
  · by_cases e : k = q
    · subst e; rw [setS_same] at hx; exact hlt x hx
    · rw [setS_other e] at hx; exact h.lt k x hx

theorem delL_sub (id : Int) (l : List OrdR) : (delL id l).Sublist l := List.filter_sublist




/-- An empty book. -/
theorem BkRep.init (most room : Nat) (V : Nat → OrdR) : BkRep most room (fun _ => []) (fun _ => []) V (fun _ => none) (fun _ => []) :=
  { e := fun _ => rfl
    half := fun _ => { ne := (fun x hx => by cases hx), pr := (fun x hx => by cases hx), em := fun _ _ _ => rfl }
    h3 := rfl
    ids := List.nodup_nil
    fi := fun id _ v => Iff.intro (fun h => by cases h) (fun ⟨m, _, ⟨_, h⟩, _⟩ => by cases h)
    ok := (fun _ o ho => by cases ho)
    len := Nat.zero_le _
    lt := (fun _ x hx => by cases hx) }
end
end Go.Proofs.Ytilngakgofjmpaa

/- The book in memory; sided, within, half, Room, Len. Conditions: a book as its New lays it. -/
namespace Go.Proofs.Ytilngakgofjmpaa
set_option linter.unusedVariables false
set_option linter.unusedSimpArgs false
open Go.RowKit
open Od (OrdR Lay FreeN Blk4)

/-- The book's blocks, and what lies in them. -/
structure BookM (w : World) (b : Nat) (bs gu : Bool → Nat) (hv : Bool → Value) (ba gl gr gf bm most room : Nat) (L : Bool → List (Int × Nat)) (R : Nat → List Nat) (V : Nat → OrdR) (F : Int → Option Int) (l : Bool → List OrdR) : Prop where
  c0 : Cell w b 0 (.pointer (some ⟨bs false, 0, none⟩))
  c1 : Cell w b 1 (.int .i64 0)
  c2 : Cell w b 2 (.pointer (some ⟨bs true, 0, none⟩))
  c3 : Cell w b 3 (.int .i64 (most : Int))
  c4 : Cell w b 4 (.pointer (some ⟨ba, 0, none⟩))
  c5 : Cell w b 5 (.map (some bm))
  c6 : Cell w b 6 (.int .i64 (room : Int))
  sd : ∀ q, SideAt w (bs q) (gu q) most (sgn q) (hv q) (L q)
  lay : Lay w ba gl gr gf (2 * most + 1) room R V
  im : IMap w bm F ((l false).length + (l true).length)
  rep : BkRep most room L R V F l
  db : (∀ q, ¬ SdB (bs q) (gu q) (hv q) b) ∧ ¬ Blk4 ba gl gr gf b ∧ b ≠ bm
  ds : ∀ i, SdB (bs false) (gu false) (hv false) i → ¬ SdB (bs true) (gu true) (hv true) i
  dq : ∀ q i, SdB (bs q) (gu q) (hv q) i → ¬ Blk4 ba gl gr gf i ∧ i ≠ bm
  da : ∀ i, Blk4 ba gl gr gf i → i ≠ bm
  small : room ≤ 256

/-- The book's blocks. -/
def BkT (b : Nat) (bs gu : Bool → Nat) (hv : Bool → Value) (ba gl gr gf bm : Nat) (i : Nat) : Prop := i = b ∨ (∃ q, SdB (bs q) (gu q) (hv q) i) ∨ Blk4 ba gl gr gf i ∨ i = bm

/-- A book lies at b, in the blocks T: its orders by priority, Buy (false) and Sell (true). -/
def Bk (w : World) (b : Nat) (T : Nat → Prop) (most room : Nat) (l : Bool → List OrdR) : Prop :=
  ∃ bs gu hv ba gl gr gf bm L R V F, BookM w b bs gu hv ba gl gr gf bm most room L R V F l ∧ T = BkT b bs gu hv ba gl gr gf bm

/-- What a call that may turn the book leaves. -/
def BkPost (w : World) (b : Nat) (T : Nat → Prop) (most room : Nat) (l : Bool → List OrdR) (v : Value) (e : Ending) (w' : World) : Prop :=
  ∃ T', e = .returned v ∧ Bk w' b T' most room l ∧ Only T w w' ∧ ∀ i, T' i → T i ∨ w.heap.size ≤ i

section
variable {w : World} {b : Nat} {bs gu : Bool → Nat} {hv : Bool → Value} {ba gl gr gf bm most room : Nat} {L : Bool → List (Int × Nat)} {R : Nat → List Nat} {V : Nat → OrdR} {F : Int → Option Int} {l : Bool → List OrdR}

theorem BookM.only (h : BookM w b bs gu hv ba gl gr gf bm most room L R V F l) {w' : World} {S : Nat → Prop} (o : Only S w w') (hS : ∀ i, BkT b bs gu hv ba gl gr gf bm i → ¬ S i) : BookM w' b bs gu hv ba gl gr gf bm most room L R V F l :=
  have hb := hS b (.inl rfl)
  ⟨h.c0.only o hb, h.c1.only o hb, h.c2.only o hb, h.c3.only o hb, h.c4.only o hb, h.c5.only o hb, h.c6.only o hb,
    fun q => SideU.only (h.sd q) o fun i hi => hS i (.inr (.inl ⟨q, hi⟩)), h.lay.keep o fun i hi => hS i (.inr (.inr (.inl hi))), h.im.only o (hS bm (.inr (.inr (.inr rfl)))), h.rep, h.db, h.ds, h.dq, h.da, h.small⟩
theorem BookM.lt (h : BookM w b bs gu hv ba gl gr gf bm most room L R V F l) (i : Nat) (hi : BkT b bs gu hv ba gl gr gf bm i) : i < w.heap.size := by
  rcases hi with rfl | ⟨q, hi⟩ | hi | rfl
  · exact h.c0.lt
  · exact (h.sd q).blk i hi
  · exact h.lay.blk i hi
  · exact h.im.lt
theorem BookM.bk (h : BookM w b bs gu hv ba gl gr gf bm most room L R V F l) : Bk w b (BkT b bs gu hv ba gl gr gf bm) most room l := ⟨_, _, _, _, _, _, _, _, _, _, _, _, h, rfl⟩
theorem BookM.mostLe (h : BookM w b bs gu hv ba gl gr gf bm most room L R V F l) : most ≤ 128 := (h.sd false).small
theorem BookM.numLe (h : BookM w b bs gu hv ba gl gr gf bm most room L R V F l) : (l false).length + (l true).length ≤ room := h.rep.len
end

theorem Bk.only {w w' : World} {b most room : Nat} {T : Nat → Prop} {l : Bool → List OrdR} (h : Bk w b T most room l) {S : Nat → Prop} (o : Only S w w') (hS : ∀ i, T i → ¬ S i) : Bk w' b T most room l := by
  obtain ⟨_, _, _, _, _, _, _, _, _, _, _, _, h, rfl⟩ := h
  exact (h.only o hS).bk
theorem Bk.lt {w : World} {b most room : Nat} {T : Nat → Prop} {l : Bool → List OrdR} (h : Bk w b T most room l) (i : Nat) (hi : T i) : i < w.heap.size := by
  obtain ⟨_, _, _, _, _, _, _, _, _, _, _, _, h, rfl⟩ := h
  exact h.lt i hi

/-! ### sided, within -/
def sidedB (s : Int) : Bool := decide (s = 1 ∨ s = 2)
theorem k_sided (s : Int) (w : World) : Calls Try.prog 76 #[.int .u8 s] w fun e w' => e = .returned (.bool (sidedB s)) ∧ w = w' := by
  by_cases h1 : s = 1
  · subst h1
    go_enter Try.func76, Try.ntmps76
    go_wp2_with fail
    go_returns
    exact ⟨rfl, rfl⟩
  · have t1 : (s == 1) = false := by simpa using h1
    by_cases h2 : s = 2
    · subst h2
      go_enter Try.func76, Try.ntmps76
      go_wp2_with fail
      go_returns
      exact ⟨rfl, rfl⟩
    · have t2 : (s == 2) = false := by simpa using h2
      have e : sidedB s = false := by simp [sidedB, h1, h2]
      rw [e]
      clear e h1 h2
      go_enter Try.func76, Try.ntmps76
      go_wp2_with fail
      go_returns
      exact ⟨rfl, rfl⟩
def inB (n m : Int) : Bool := decide (1 ≤ n ∧ n ≤ m)
theorem k_within (n m : Int) (w : World) : Calls Try.prog 75 #[.int .i64 n, .int .i64 m] w fun e w' => e = .returned (.bool (inB n m)) ∧ w = w' := by
  by_cases h1 : 1 ≤ n
  · have t1 : decide (1 ≤ n) = true := by simpa using h1
    by_cases h2 : n ≤ m
    · have t2 : decide (n ≤ m) = true := by simpa using h2
      have e : inB n m = true := by simp [inB, h1, h2]
      rw [e]
      clear e h1 h2
      go_enter Try.func75, Try.ntmps75
      go_wp2_with fail
      go_returns
      exact ⟨rfl, rfl⟩
    · have t2 : decide (n ≤ m) = false := by simpa using h2
      have e : inB n m = false := by simp [inB, h1, h2]
      rw [e]
      clear e h1 h2
      go_enter Try.func75, Try.ntmps75
      go_wp2_with fail
      go_returns
      exact ⟨rfl, rfl⟩
  · have t1 : decide (1 ≤ n) = false := by simpa using h1
    have e : inB n m = false := by simp [inB, h1]
    rw [e]
    clear e h1
    go_enter Try.func75, Try.ntmps75
    go_wp2_with fail
    go_returns
    exact ⟨rfl, rfl⟩

section
variable {w : World} {b : Nat} {bs gu : Bool → Nat} {hv : Bool → Value} {ba gl gr gf bm most room : Nat} {L : Bool → List (Int × Nat)} {R : Nat → List Nat} {V : Nat → OrdR} {F : Int → Option Int} {l : Bool → List OrdR}
set_option maxHeartbeats 1000000 in
theorem k_half (h : BookM w b bs gu hv ba gl gr gf bm most room L R V F l) (q : Bool) :
    Calls Try.prog 77 #[.pointer (some ⟨b, 0, none⟩), .int .u8 (sdN q)] w fun e w' => e = .returned (.agg #[.pointer (some ⟨bs q, 0, none⟩), .int .i64 (fst most q : Nat)]) ∧ Only (fun _ => False) w w' := by
  have c0 := h.c0.cell
  have c1 := h.c1.cell
  have c2 := h.c2.cell
  have c3 := h.c3.cell
  have z0 := cell_lt c0
  clear h
  cases q
  · show Calls Try.prog 77 #[.pointer (some ⟨b, 0, none⟩), .int .u8 1] w fun e w' => e = .returned (.agg #[.pointer (some ⟨bs false, 0, none⟩), .int .i64 0]) ∧ Only (fun _ => False) w w'
    generalize bs false = b1 at *
    generalize bs true = b2 at *
    go_enter Try.func77, Try.ntmps77
    go_wp2_with fail
    refine bodyPost_ret (by simp [results, Try.results77, go_sem]; try rfl) rfl ?_
    exact ⟨rfl, by repeat' (first | (with_reducible exact Only.refl _ _) | (with_reducible assumption) | (refine Only.of_none ?_; with_reducible assumption) | (with_reducible refine Only.drewN ?_ _) | (with_reducible refine Only.drew ?_) | (with_reducible refine Only.alloc ?_ _) | (with_reducible refine Only.setCell ?_ ?_ _) | (with_reducible refine Only.then0 ?_ (by with_reducible assumption)) | (with_reducible refine Only.thenN ?_ (by with_reducible assumption) ?_) | (with_reducible refine Only.trans ?_ (by with_reducible assumption)) | (refine .inl ?_; first | rfl | (simp; done) | (simp [Ar.blk]; done)) | (refine .inr ?_; first | omega | (simp; done) | (simp; omega) | exact Only.size (by with_reducible assumption) | (refine Nat.le_trans (Only.size (by with_reducible assumption)) ?_; simp; done)))⟩
  · show Calls Try.prog 77 #[.pointer (some ⟨b, 0, none⟩), .int .u8 2] w fun e w' => e = .returned (.agg #[.pointer (some ⟨bs true, 0, none⟩), .int .i64 (most : Int)]) ∧ Only (fun _ => False) w w'
    generalize bs false = b1 at *
    generalize bs true = b2 at *
    go_enter Try.func77, Try.ntmps77
    go_wp2_with fail
    refine bodyPost_ret (by simp [results, Try.results77, go_sem]; try rfl) rfl ?_
    exact ⟨rfl, by repeat' (first | (with_reducible exact Only.refl _ _) | (with_reducible assumption) | (refine Only.of_none ?_; with_reducible assumption) | (with_reducible refine Only.drewN ?_ _) | (with_reducible refine Only.drew ?_) | (with_reducible refine Only.alloc ?_ _) | (with_reducible refine Only.setCell ?_ ?_ _) | (with_reducible refine Only.then0 ?_ (by with_reducible assumption)) | (with_reducible refine Only.thenN ?_ (by with_reducible assumption) ?_) | (with_reducible refine Only.trans ?_ (by with_reducible assumption)) | (refine .inl ?_; first | rfl | (simp; done) | (simp [Ar.blk]; done)) | (refine .inr ?_; first | omega | (simp; done) | (simp; omega) | exact Only.size (by with_reducible assumption) | (refine Nat.le_trans (Only.size (by with_reducible assumption)) ?_; simp; done)))⟩
theorem k_room (h : BookM w b bs gu hv ba gl gr gf bm most room L R V F l) :
    Calls Try.prog 32 #[.pointer (some ⟨b, 0, none⟩)] w fun e w' => e = .returned (.int .i64 ((room - ((l false).length + (l true).length) : Nat) : Int)) ∧ Only (fun _ => False) w w' := by
  have c5 := h.c5.cell
  have c6 := h.c6.cell
  have z0 := cell_lt c5
  have hl := fun n => (h.im.only ((Only.refl (fun _ => False) w).drewN n) id).len 3
  have hn := h.numLe
  have hr := h.small
  generalize (l false).length + (l true).length = k at *
  have e1 : (room : Int) - (k : Int) = ((room - k : Nat) : Int) := by omega
  have e2 : IntKind.i64.wrap ((room : Int) - (k : Int)) = ((room - k : Nat) : Int) := by rw [IntKind.wrap_i64]; omega
  clear h
  go_enter Try.func32, Try.ntmps32
  go_wp2_with fail
  go_quiet (fail)
  go_wp2_with fail
  go_returns
  exact ⟨rfl, by repeat' (first | (with_reducible exact Only.refl _ _) | (with_reducible assumption) | (refine Only.of_none ?_; with_reducible assumption) | (with_reducible refine Only.drewN ?_ _) | (with_reducible refine Only.drew ?_) | (with_reducible refine Only.alloc ?_ _) | (with_reducible refine Only.setCell ?_ ?_ _) | (with_reducible refine Only.then0 ?_ (by with_reducible assumption)) | (with_reducible refine Only.thenN ?_ (by with_reducible assumption) ?_) | (with_reducible refine Only.trans ?_ (by with_reducible assumption)) | (refine .inl ?_; first | rfl | (simp; done) | (simp [Ar.blk]; done)) | (refine .inr ?_; first | omega | (simp; done) | (simp; omega) | exact Only.size (by with_reducible assumption) | (refine Nat.le_trans (Only.size (by with_reducible assumption)) ?_; simp; done)))⟩
end
end Go.Proofs.Ytilngakgofjmpaa

/- The book: Get, Best, Prices, Fits. Conditions: a book as its New lays it. -/
namespace Go.Proofs.Ytilngakgofjmpaa
set_option linter.unusedVariables false
set_option linter.unusedSimpArgs false
open Go.RowKit
open Od (OrdR Lay FreeN Blk4)

/-- An order's box. -/
structure Five (w : World) (g : Nat) (a0 a1 a2 a3 a4 : Value) : Prop where
  c0 : Cell w g 0 a0
  c1 : Cell w g 1 a1
  c2 : Cell w g 2 a2
  c3 : Cell w g 3 a3
  c4 : Cell w g 4 a4
section
variable {w : World} {g : Nat} {a0 a1 a2 a3 a4 : Value}
theorem Five.new (w : World) (a0 a1 a2 a3 a4 : Value) (t : TypeId) : Five (w.alloc (.cells #[a0, a1, a2, a3, a4] t)) w.heap.size a0 a1 a2 a3 a4 := ⟨Cell.new rfl, Cell.new rfl, Cell.new rfl, Cell.new rfl, Cell.new rfl⟩
theorem Five.only (h : Five w g a0 a1 a2 a3 a4) {w' : World} {S : Nat → Prop} (o : Only S w w') (hS : ¬ S g) : Five w' g a0 a1 a2 a3 a4 := ⟨h.c0.only o hS, h.c1.only o hS, h.c2.only o hS, h.c3.only o hS, h.c4.only o hS⟩
theorem Five.put (h : Five w g a0 a1 a2 a3 a4) (u0 u1 u2 u3 u4 : Value) : Five (((((w.setCell ⟨g, 0, none⟩ u0).setCell ⟨g, 1, none⟩ u1).setCell ⟨g, 2, none⟩ u2).setCell ⟨g, 3, none⟩ u3).setCell ⟨g, 4, none⟩ u4) g u0 u1 u2 u3 u4 :=
  ⟨((((h.c0.set _).far (off_ne (by decide)) _).far (off_ne (by decide)) _).far (off_ne (by decide)) _).far (off_ne (by decide)) _,
   ((((h.c1.far (off_ne (by decide)) _).set _).far (off_ne (by decide)) _).far (off_ne (by decide)) _).far (off_ne (by decide)) _,
   ((((h.c2.far (off_ne (by decide)) _).far (off_ne (by decide)) _).set _).far (off_ne (by decide)) _).far (off_ne (by decide)) _,
   ((((h.c3.far (off_ne (by decide)) _).far (off_ne (by decide)) _).far (off_ne (by decide)) _).set _).far (off_ne (by decide)) _,
   ((((h.c4.far (off_ne (by decide)) _).far (off_ne (by decide)) _).far (off_ne (by decide)) _).far (off_ne (by decide)) _).set _⟩
theorem put5_only {S : Nat → Prop} {w0 : World} (o : Only S w0 w) (hg : S g ∨ w0.heap.size ≤ g) (u0 u1 u2 u3 u4 : Value) : Only S w0 (((((w.setCell ⟨g, 0, none⟩ u0).setCell ⟨g, 1, none⟩ u1).setCell ⟨g, 2, none⟩ u2).setCell ⟨g, 3, none⟩ u3).setCell ⟨g, 4, none⟩ u4) :=
  ((((o.setCell hg _).setCell hg _).setCell hg _).setCell hg _).setCell hg _
end
/-- An order as a value; none: noughts. -/
def ordV (o : OrdR) : Value := .agg #[.int .i64 o.i, .int .i64 o.c, .int .u8 o.s, .int .i64 o.p, .int .i64 o.q]
def zOrd : OrdR := ⟨0, 0, 0, 0, 0⟩

section
variable {w : World} {b : Nat} {bs gu : Bool → Nat} {hv : Bool → Value} {ba gl gr gf bm most room : Nat} {L : Bool → List (Int × Nat)} {R : Nat → List Nat} {V : Nat → OrdR} {F : Int → Option Int} {l : Bool → List OrdR}
theorem fst_row {most : Nat} {q : Bool} {r : Nat} (hr : r < most) : fst most q + r < 2 * most + 1 := by have := fst_le most q; omega

set_option maxHeartbeats 1000000 in
theorem k_get_no (h : BookM w b bs gu hv ba gl gr gf bm most room L R V F l) (k : Int) (hw : Wf k) (hf : F k = none) :
    Calls Try.prog 38 #[.pointer (some ⟨b, 0, none⟩), .int .i64 k] w fun e w' => e = .returned (.tuple #[ordV zOrd, .bool false]) ∧ Only (fun _ => False) w w' := by
  have o0 := (Only.refl (fun _ => False) w).alloc (.cells #[.int .i64 0, .int .i64 0, .int .u8 0, .int .i64 0, .int .i64 0] 54)
  have h0 := h.only o0 (fun _ _ => id)
  have c5 := h0.c5.cell
  have hl := h0.im.look hw
  rw [hf] at hl
  simp only [Option.getD_none, Option.isSome_none] at hl
  have h5 := Five.new w (.int .i64 0) (.int .i64 0) (.int .u8 0) (.int .i64 0) (.int .i64 0) 54
  have f0 := h5.c0.free; have f1 := h5.c1.free; have f2 := h5.c2.free; have f3 := h5.c3.free; have f4 := h5.c4.free
  have g0 := h5.c0.cell; have g1 := h5.c1.cell; have g2 := h5.c2.cell; have g3 := h5.c3.cell; have g4 := h5.c4.cell
  have P := h5.put (.int .i64 0) (.int .i64 0) (.int .u8 0) (.int .i64 0) (.int .i64 0)
  have p0 := P.c0.cell; have p1 := P.c1.cell; have p2 := P.c2.cell; have p3 := P.c3.cell; have p4 := P.c4.cell
  unfold ordV zOrd
  clear h h0 hf h5 P o0
  go_enter Try.func38, Try.ntmps38
  go_wp2_with fail
  refine bodyPost_ret (by simp [results, Try.results38, go_sem, p0, p1, p2, p3, p4]; try rfl) rfl ?_
  exact ⟨rfl, by repeat' (first | (with_reducible exact Only.refl _ _) | (with_reducible assumption) | (refine Only.of_none ?_; with_reducible assumption) | (with_reducible refine Only.drewN ?_ _) | (with_reducible refine Only.drew ?_) | (with_reducible refine Only.alloc ?_ _) | (with_reducible refine Only.setCell ?_ ?_ _) | (with_reducible refine Only.then0 ?_ (by with_reducible assumption)) | (with_reducible refine Only.thenN ?_ (by with_reducible assumption) ?_) | (with_reducible refine Only.trans ?_ (by with_reducible assumption)) | (refine .inl ?_; first | rfl | (simp; done) | (simp [Ar.blk]; done)) | (refine .inr ?_; first | omega | (simp; done) | (simp; omega) | exact Only.size (by with_reducible assumption) | (refine Nat.le_trans (Only.size (by with_reducible assumption)) ?_; simp; done)))⟩

set_option maxHeartbeats 1000000 in
theorem k_get (h : BookM w b bs gu hv ba gl gr gf bm most room L R V F l) (k : Int) (hw : Wf k) (n : Nat) (hf : F k = some (n : Int)) :
    Calls Try.prog 38 #[.pointer (some ⟨b, 0, none⟩), .int .i64 k] w fun e w' => e = .returned (.tuple #[ordV (V n), .bool true]) ∧ Only (fun _ => False) w w' := by
  have o0 := (Only.refl (fun _ => False) w).alloc (.cells #[.int .i64 0, .int .i64 0, .int .u8 0, .int .i64 0, .int .i64 0] 54)
  have h0 := h.only o0 (fun _ _ => id)
  have c5 := h0.c5.cell
  have c4 := h0.c4.cell
  have hl := h0.im.look hw
  rw [hf] at hl
  simp only [Option.getD_some, Option.isSome_some] at hl
  have h5 := Five.new w (.int .i64 0) (.int .i64 0) (.int .u8 0) (.int .i64 0) (.int .i64 0) 54
  obtain ⟨m, q, hm, hmem, hi, hmm⟩ := h.rep.found hw hf
  obtain rfl : n = m := by omega
  obtain ⟨x, hx, hr⟩ := mem_nums.1 hmem
  have hxr := h.rep.lt q x hx
  have HG := Lib.hid (Od.h_get _ ba gl gr gf (2 * most + 1) room R V h0.lay (fst most q + x.2) n (fst_row hxr) hr)
  have H5 := Lib.hid h5
  unfold ordV
  generalize V n = o at *
  obtain ⟨oi, oc, os, op, oq⟩ := o
  simp only at HG
  clear h h0 hf h5 hm hmem hx hr hxr hw hi hmm
  go_enter Try.func38, Try.ntmps38
  go_wp2_with fail
  refine HG.out.mono ?_
  rintro e w1 ⟨rfl, o1⟩
  have h6 := H5.out.only o1 id
  have f0 := h6.c0.free; have f1 := h6.c1.free; have f2 := h6.c2.free; have f3 := h6.c3.free; have f4 := h6.c4.free
  have g0 := h6.c0.cell; have g1 := h6.c1.cell; have g2 := h6.c2.cell; have g3 := h6.c3.cell; have g4 := h6.c4.cell
  have P := h6.put (.int .i64 oi) (.int .i64 oc) (.int .u8 os) (.int .i64 op) (.int .i64 oq)
  have p0 := P.c0.cell; have p1 := P.c1.cell; have p2 := P.c2.cell; have p3 := P.c3.cell; have p4 := P.c4.cell
  clear h6 P
  go_wp2_with fail
  refine bodyPost_ret (by simp [results, Try.results38, go_sem, p0, p1, p2, p3, p4]; try rfl) rfl ?_
  exact ⟨rfl, by repeat' (first | (with_reducible exact Only.refl _ _) | (with_reducible assumption) | (refine Only.of_none ?_; with_reducible assumption) | (with_reducible refine Only.drewN ?_ _) | (with_reducible refine Only.drew ?_) | (with_reducible refine Only.alloc ?_ _) | (with_reducible refine Only.setCell ?_ ?_ _) | (with_reducible refine Only.then0 ?_ (by with_reducible assumption)) | (with_reducible refine Only.thenN ?_ (by with_reducible assumption) ?_) | (with_reducible refine Only.trans ?_ (by with_reducible assumption)) | (refine .inl ?_; first | rfl | (simp; done) | (simp [Ar.blk]; done)) | (refine .inr ?_; first | omega | (simp; done) | (simp; omega) | exact Only.size (by with_reducible assumption) | (refine Nat.le_trans (Only.size (by with_reducible assumption)) ?_; simp; done)))⟩

theorem fieldHalf (v u : Value) (w : World) : (Instr.field 150 (.agg #[v, u]) 0).run Try.prog w = .ok v w := by kernel_rfl
/-- The best price; nought: none. -/
def bestP (L : List OrdR) : Int := match L with | [] => 0 | o :: _ => o.p
theorem BkRep.best (h : BkRep most room L R V F l) (q : Bool) : match L q with | [] => l q = [] | x :: _ => bestP (l q) = x.1 := by
  have e := h.e q
  cases hL : L q with
  | nil => rw [hL] at e; exact e
  | cons x t =>
    rw [hL, nums_cons] at e
    have h1 := (h.half q).ne x (by rw [hL]; simp)
    have h2 := (h.half q).pr x (by rw [hL]; simp)
    cases hR : R (fst most q + x.2) with
    | nil => exact absurd hR h1
    | cons n r =>
      rw [hR] at e
      show bestP (l q) = x.1
      rw [e]
      exact (h2 n (by rw [hR]; simp)).1
theorem sided_sdN (q : Bool) : sidedB (sdN q) = true := by cases q <;> rfl
end
end Go.Proofs.Ytilngakgofjmpaa

/- The book: Prices, Fits. Conditions: a book as its New lays it. -/
namespace Go.Proofs.Ytilngakgofjmpaa
set_option linter.unusedVariables false
set_option linter.unusedSimpArgs false
open Go.RowKit
open Od (OrdR Lay FreeN Blk4)

/-- A side's prices, each once. -/
def pricesL : List OrdR → List Int
  | [] => []
  | o :: t => match pricesL t with
    | [] => [o.p]
    | p :: ps => if p = o.p then p :: ps else o.p :: p :: ps
theorem pricesL_group {p : Int} {Y : List OrdR} (hY : ∀ q ps, pricesL Y = q :: ps → q ≠ p) : ∀ X : List OrdR, X ≠ [] → (∀ o ∈ X, o.p = p) → pricesL (X ++ Y) = p :: pricesL Y := by
  intro X
  induction X with
  | nil => intro h; exact absurd rfl h
  | cons o t ih =>
    intro _ hX
    have ho := hX o (by simp)
    cases t with
    | nil =>
      show (match pricesL Y with | [] => [o.p] | q :: ps => if q = o.p then q :: ps else o.p :: q :: ps) = _
      cases e : pricesL Y with
      | nil => simp [ho]
      | cons q ps =>
        have := hY q ps e
        simp only [ho]
        rw [if_neg this]
    | cons o2 t2 =>
      have := ih (by simp) (fun x hx => hX x (by simp [hx]))
      show (match pricesL ((o2 :: t2) ++ Y) with | [] => [o.p] | q :: ps => if q = o.p then q :: ps else o.p :: q :: ps) = _
      rw [this]
      simp only
      rw [if_pos ho.symm]
theorem prices_nums {side sg : Int} {first most : Nat} {R : Nat → List Nat} {V : Nat → OrdR} : ∀ {L : List (Int × Nat)}, Half side first most L R V → Srt sg L → pricesL ((nums first L R).map V) = L.map Prod.fst := by
  intro L h
  have hne := h.ne
  have hpr := h.pr
  clear h
  induction L with
  | nil => intro _; rfl
  | cons x t ih =>
    intro hs
    have s2 := List.pairwise_cons.1 hs
    have IH := ih (fun y hy => hne y (by simp [hy])) (fun y hy => hpr y (by simp [hy])) s2.2
    rw [nums_cons, List.map_append, pricesL_group (p := x.1), IH, List.map_cons]
    · intro q ps e
      rw [IH] at e
      cases t with
      | nil => cases e
      | cons y r =>
        rw [List.map_cons] at e
        injection e with e1 e2
        have := s2.1 y (by simp)
        rw [← e1]
        intro e3
        rw [e3] at this
        omega
    · simpa using hne x (by simp)
    · intro o ho
      obtain ⟨n, hn, rfl⟩ := List.mem_map.1 ho
      exact (hpr x (by simp) n hn).1

section
variable {w : World} {b : Nat} {bs gu : Bool → Nat} {hv : Bool → Value} {ba gl gr gf bm most room : Nat} {L : Bool → List (Int × Nat)} {R : Nat → List Nat} {V : Nat → OrdR} {F : Int → Option Int} {l : Bool → List OrdR}
theorem BookM.prices (h : BookM w b bs gu hv ba gl gr gf bm most room L R V F l) (q : Bool) : pricesL (l q) = (L q).map Prod.fst := by
  rw [h.rep.e q]; exact prices_nums (h.rep.half q) (h.sd q).srt
theorem has_prices {p : Int} {L : List (Int × Nat)} : has p L = true ↔ p ∈ L.map Prod.fst := by
  rw [has_iff, List.mem_map]

theorem k_prices_no (s : Int) (hs : sidedB s = false) : Calls Try.prog 94 #[.pointer (some ⟨b, 0, none⟩), .int .u8 s] w fun e w' => e = .returned (.int .i64 0) ∧ w = w' := by
  have H := Lib.hid (k_sided s w)
  rw [hs] at H
  clear hs
  go_enter Try.func94, Try.ntmps94
  go_wp2_with fail
  refine H.out.mono ?_
  rintro e w1 ⟨rfl, rfl⟩
  go_wp2_with fail
  go_returns
  exact ⟨rfl, rfl⟩
set_option maxRecDepth 100000 in
set_option maxHeartbeats 1000000 in
theorem k_prices (h : BookM w b bs gu hv ba gl gr gf bm most room L R V F l) (q : Bool) : Calls Try.prog 94 #[.pointer (some ⟨b, 0, none⟩), .int .u8 (sdN q)] w fun e w' => e = .returned (.int .i64 ((most - (L q).length : Nat) : Int)) ∧ Only (fun _ => False) w w' := by
  have H := Lib.hid (k_sided (sdN q) w)
  rw [sided_sdN] at H
  have HH := Lib.hid fun W (o : Only (fun _ => False) w W) => k_half (h.only o (fun _ _ => id)) q
  have HL := Lib.hid fun W (o : Only (fun _ => False) w W) => Go.Proofs.Ytilngakgofjmpaa.s_len (SideU.only (h.sd q) o (fun _ _ => id))
  have hfd := fieldHalf (.pointer (some ⟨bs q, 0, none⟩)) (.int .i64 (fst most q : Nat))
  have c3 := h.c3.cell
  have z0 := cell_lt c3
  have hlen := (h.sd q).len
  have hsm := h.mostLe
  obtain ⟨k, hk⟩ : ∃ k, k = (L q).length := ⟨_, rfl⟩
  rw [← hk] at HL hlen ⊢
  have e2 : IntKind.i64.wrap ((most - k : Nat) : Int) = ((most - k : Nat) : Int) := by rw [IntKind.wrap_i64]; omega
  have e3 : (most : Int) - (k : Int) = ((most - k : Nat) : Int) := by omega
  generalize sdN q = s at *
  generalize bs q = b1 at *
  generalize fst most q = fs at *
  have KEEP := fun W (o : Only (fun _ => False) w W) => Lib.hid (show W.cell? ⟨b, 3, none⟩ = some (.int .i64 (most : Int)) from o.cell c3 id)
  clear h hk
  go_enter Try.func94, Try.ntmps94
  go_wp2_with fail
  refine H.out.mono ?_
  rintro e w1 ⟨rfl, rfl⟩
  go_wp2_with fail
  go_region_held3 (fun W => W.cell? ⟨b, 3, none⟩ = some (.int .i64 (most : Int)))
    (first | (refine (KEEP _ ?_).out; (repeat' (first | (with_reducible exact Only.refl _ _) | (with_reducible assumption) | (refine Only.of_none ?_; with_reducible assumption) | (with_reducible refine Only.drewN ?_ _) | (with_reducible refine Only.drew ?_) | (with_reducible refine Only.alloc ?_ _) | (with_reducible refine Only.setCell ?_ ?_ _) | (with_reducible refine Only.then0 ?_ (by with_reducible assumption)) | (with_reducible refine Only.thenN ?_ (by with_reducible assumption) ?_) | (with_reducible refine Only.trans ?_ (by with_reducible assumption)) | (refine .inl ?_; first | rfl | (simp; done) | (simp [Ar.blk]; done)) | (refine .inr ?_; first | omega | (simp; done) | (simp; omega) | exact Only.size (by with_reducible assumption) | (refine Nat.le_trans (Only.size (by with_reducible assumption)) ?_; simp; done)))); done))
    (first | (go_at_call 77; refine (HH.out _ (by repeat' (first | (with_reducible exact Only.refl _ _) | (with_reducible assumption) | (refine Only.of_none ?_; with_reducible assumption) | (with_reducible refine Only.drewN ?_ _) | (with_reducible refine Only.drew ?_) | (with_reducible refine Only.alloc ?_ _) | (with_reducible refine Only.setCell ?_ ?_ _) | (with_reducible refine Only.then0 ?_ (by with_reducible assumption)) | (with_reducible refine Only.thenN ?_ (by with_reducible assumption) ?_) | (with_reducible refine Only.trans ?_ (by with_reducible assumption)) | (refine .inl ?_; first | rfl | (simp; done) | (simp [Ar.blk]; done)) | (refine .inr ?_; first | omega | (simp; done) | (simp; omega) | exact Only.size (by with_reducible assumption) | (refine Nat.le_trans (Only.size (by with_reducible assumption)) ?_; simp; done))))).mono ?_; rintro e w7 ⟨rfl, o7⟩) | (go_at_call 19; refine (HL.out _ (by repeat' (first | (with_reducible exact Only.refl _ _) | (with_reducible assumption) | (refine Only.of_none ?_; with_reducible assumption) | (with_reducible refine Only.drewN ?_ _) | (with_reducible refine Only.drew ?_) | (with_reducible refine Only.alloc ?_ _) | (with_reducible refine Only.setCell ?_ ?_ _) | (with_reducible refine Only.then0 ?_ (by with_reducible assumption)) | (with_reducible refine Only.thenN ?_ (by with_reducible assumption) ?_) | (with_reducible refine Only.trans ?_ (by with_reducible assumption)) | (refine .inl ?_; first | rfl | (simp; done) | (simp [Ar.blk]; done)) | (refine .inr ?_; first | omega | (simp; done) | (simp; omega) | exact Only.size (by with_reducible assumption) | (refine Nat.le_trans (Only.size (by with_reducible assumption)) ?_; simp; done))))).mono ?_; rintro e w8 ⟨rfl, rfl⟩))
  all_goals
    go_wp2_with fail
    go_returns
    exact ⟨rfl, by repeat' (first | (with_reducible exact Only.refl _ _) | (with_reducible assumption) | (refine Only.of_none ?_; with_reducible assumption) | (with_reducible refine Only.drewN ?_ _) | (with_reducible refine Only.drew ?_) | (with_reducible refine Only.alloc ?_ _) | (with_reducible refine Only.setCell ?_ ?_ _) | (with_reducible refine Only.then0 ?_ (by with_reducible assumption)) | (with_reducible refine Only.thenN ?_ (by with_reducible assumption) ?_) | (with_reducible refine Only.trans ?_ (by with_reducible assumption)) | (refine .inl ?_; first | rfl | (simp; done) | (simp [Ar.blk]; done)) | (refine .inr ?_; first | omega | (simp; done) | (simp; omega) | exact Only.size (by with_reducible assumption) | (refine Nat.le_trans (Only.size (by with_reducible assumption)) ?_; simp; done)))⟩

/-- What forbids to lay an order of a side at a price down. -/
def fitsE (most room : Nat) (l : Bool → List OrdR) (q : Bool) (p : Int) : Int :=
  if ¬ (1 ≤ p ∧ p ≤ 1000000000) then 1 else if (l false).length + (l true).length = room then 60 else if p ∈ pricesL (l q) then 0 else if (pricesL (l q)).length = most then 61 else 0

theorem k_fits_side (h : BookM w b bs gu hv ba gl gr gf bm most room L R V F l) (s p : Int) (hs : sidedB s = false) : Calls Try.prog 73 #[.pointer (some ⟨b, 0, none⟩), .int .u8 s, .int .i64 p] w fun e w' => e = .returned (.int .i64 1) ∧ w = w' := by
  have H := Lib.hid (k_sided s w)
  rw [hs] at H
  clear hs
  go_enter Try.func73, Try.ntmps73
  go_wp2_with fail
  refine H.out.mono ?_
  rintro e w1 ⟨rfl, rfl⟩
  go_wp2_with fail
  go_returns
  exact ⟨rfl, rfl⟩

set_option maxRecDepth 100000 in
set_option maxHeartbeats 2000000 in
theorem k_fits (h : BookM w b bs gu hv ba gl gr gf bm most room L R V F l) (q : Bool) (p : Int) :
    Calls Try.prog 73 #[.pointer (some ⟨b, 0, none⟩), .int .u8 (sdN q), .int .i64 p] w fun e w' => e = .returned (.int .i64 (fitsE most room l q p)) ∧ Only (fun _ => False) w w' := by
  have H := Lib.hid (k_sided (sdN q) w)
  rw [sided_sdN] at H
  have HW := Lib.hid (k_within p 1000000000 w)
  unfold fitsE
  by_cases h1 : 1 ≤ p ∧ p ≤ 1000000000
  · rw [if_neg (by simpa using h1)]
    have e1 : inB p 1000000000 = true := by simpa [inB] using h1
    rw [e1] at HW
    have HR := Lib.hid (k_room h)
    have hn := h.numLe
    by_cases h2 : (l false).length + (l true).length = room
    · rw [if_pos h2]
      rw [show room - ((l false).length + (l true).length) = 0 by omega] at HR
      generalize sdN q = s at *
      clear h h1 h2 e1 hn
      go_enter Try.func73, Try.ntmps73
      go_wp2_with fail
      refine H.out.mono ?_
      rintro e w1 ⟨rfl, rfl⟩
      go_wp2_with fail
      refine HW.out.mono ?_
      rintro e w1 ⟨rfl, rfl⟩
      go_wp2_with fail
      refine HR.out.mono ?_
      rintro e w1 ⟨rfl, o1⟩
      go_wp2_with fail
      go_returns
      exact ⟨rfl, o1⟩
    · rw [if_neg h2]
      obtain ⟨k, hk⟩ : ∃ k, k = room - ((l false).length + (l true).length) := ⟨_, rfl⟩
      rw [← hk] at HR
      have t1 : (((k : Nat) : Int) == 0) = false := by simp; omega
      have HH := Lib.hid fun W (o : Only (fun _ => False) w W) => k_half (h.only o (fun _ _ => id)) q
      have hpr := h.prices q
      have hlen : (pricesL (l q)).length = (L q).length := by rw [hpr, List.length_map]
      cases hp : has p (L q) with
      | true =>
        obtain ⟨⟨p', r⟩, hx, e⟩ := has_iff.1 hp
        simp only at e
        subst e
        rw [if_pos (by rw [hpr]; exact has_prices.1 hp)]
        have HF := Lib.hid fun W (o : Only (fun _ => False) w W) => Go.Proofs.Ytilngakgofjmpaa.s_find (SideU.only (h.sd q) o (fun _ _ => id)) p' r hx
        have t2 : decide ((r : Int) < 0) = false := by simp
        generalize sdN q = s at *
        generalize bs q = b1 at *
        generalize fst most q = fs at *
        clear h h1 h2 e1 hn hk hpr hlen hp hx
        go_enter Try.func73, Try.ntmps73
        go_wp2_with fail
        refine H.out.mono ?_
        rintro e w1 ⟨rfl, rfl⟩
        go_wp2_with fail
        refine HW.out.mono ?_
        rintro e w1 ⟨rfl, rfl⟩
        go_wp2_with fail
        refine HR.out.mono ?_
        rintro e w1 ⟨rfl, o1⟩
        go_wp2_with fail
        refine (HH.out _ o1).mono ?_
        rintro e w2 ⟨rfl, o2⟩
        have OO : Only (fun _ => False) w (w2.alloc (.cells #[.pointer (some ⟨b1, 0, none⟩), .int .i64 (fs : Nat)] 150)) := (o1.trans o2).alloc _
        go_wp2_with fail
        refine (HF.out _ (by repeat' (first | (with_reducible exact Only.refl _ _) | (with_reducible assumption) | (refine Only.of_none ?_; with_reducible assumption) | (with_reducible refine Only.drewN ?_ _) | (with_reducible refine Only.drew ?_) | (with_reducible refine Only.alloc ?_ _) | (with_reducible refine Only.setCell ?_ ?_ _) | (with_reducible refine Only.then0 ?_ (by with_reducible assumption)) | (with_reducible refine Only.thenN ?_ (by with_reducible assumption) ?_) | (with_reducible refine Only.trans ?_ (by with_reducible assumption)) | (refine .inl ?_; first | rfl | (simp; done) | (simp [Ar.blk]; done)) | (refine .inr ?_; first | omega | (simp; done) | (simp; omega) | exact Only.size (by with_reducible assumption) | (refine Nat.le_trans (Only.size (by with_reducible assumption)) ?_; simp; done))))).mono ?_
        rintro e w3 ⟨rfl, o3⟩
        go_wp2_with fail
        go_returns
        exact ⟨rfl, by repeat' (first | (with_reducible exact Only.refl _ _) | (with_reducible assumption) | (refine Only.of_none ?_; with_reducible assumption) | (with_reducible refine Only.drewN ?_ _) | (with_reducible refine Only.drew ?_) | (with_reducible refine Only.alloc ?_ _) | (with_reducible refine Only.setCell ?_ ?_ _) | (with_reducible refine Only.then0 ?_ (by with_reducible assumption)) | (with_reducible refine Only.thenN ?_ (by with_reducible assumption) ?_) | (with_reducible refine Only.trans ?_ (by with_reducible assumption)) | (refine .inl ?_; first | rfl | (simp; done) | (simp [Ar.blk]; done)) | (refine .inr ?_; first | omega | (simp; done) | (simp; omega) | exact Only.size (by with_reducible assumption) | (refine Nat.le_trans (Only.size (by with_reducible assumption)) ?_; simp; done)))⟩
      | false =>
        rw [if_neg (by rw [hpr]; exact fun hm => by rw [has_prices.2 hm] at hp; cases hp)]
        have HF := Lib.hid fun W (o : Only (fun _ => False) w W) => Go.Proofs.Ytilngakgofjmpaa.s_find_no (SideU.only (h.sd q) o (fun _ _ => id)) p hp
        have HP := Lib.hid fun W (o : Only (fun _ => False) w W) => k_prices (h.only o (fun _ _ => id)) q
        rw [hlen]
        have hle := (h.sd q).len
        obtain ⟨m, hm⟩ : ∃ m, m = most - (L q).length := ⟨_, rfl⟩
        have t3 : (((m : Nat) : Int) == 0) = decide ((L q).length = most) := by
          rw [Bool.eq_iff_iff]
          simp
          omega
        rw [← hm] at HP
        have e4 : (if (L q).length = most then (61 : Int) else 0) = if decide ((L q).length = most) = true then 61 else 0 := by simp
        rw [e4]
        generalize decide ((L q).length = most) = full at *
        generalize sdN q = s at *
        generalize bs q = b1 at *
        generalize fst most q = fs at *
        clear h h1 h2 e1 hn hk hpr hlen hp hle hm e4
        cases full
        all_goals
          go_enter Try.func73, Try.ntmps73
          go_wp2_with fail
          refine H.out.mono ?_
          rintro e w1 ⟨rfl, rfl⟩
          go_wp2_with fail
          refine HW.out.mono ?_
          rintro e w1 ⟨rfl, rfl⟩
          go_wp2_with fail
          refine HR.out.mono ?_
          rintro e w1 ⟨rfl, o1⟩
          go_wp2_with fail
          refine (HH.out _ o1).mono ?_
          rintro e w2 ⟨rfl, o2⟩
          go_wp2_with fail
          refine (HF.out _ (by repeat' (first | (with_reducible exact Only.refl _ _) | (with_reducible assumption) | (refine Only.of_none ?_; with_reducible assumption) | (with_reducible refine Only.drewN ?_ _) | (with_reducible refine Only.drew ?_) | (with_reducible refine Only.alloc ?_ _) | (with_reducible refine Only.setCell ?_ ?_ _) | (with_reducible refine Only.then0 ?_ (by with_reducible assumption)) | (with_reducible refine Only.thenN ?_ (by with_reducible assumption) ?_) | (with_reducible refine Only.trans ?_ (by with_reducible assumption)) | (refine .inl ?_; first | rfl | (simp; done) | (simp [Ar.blk]; done)) | (refine .inr ?_; first | omega | (simp; done) | (simp; omega) | exact Only.size (by with_reducible assumption) | (refine Nat.le_trans (Only.size (by with_reducible assumption)) ?_; simp; done))))).mono ?_
          rintro e w3 ⟨rfl, o3⟩
          go_wp2_with fail
          refine (HP.out _ (by repeat' (first | (with_reducible exact Only.refl _ _) | (with_reducible assumption) | (refine Only.of_none ?_; with_reducible assumption) | (with_reducible refine Only.drewN ?_ _) | (with_reducible refine Only.drew ?_) | (with_reducible refine Only.alloc ?_ _) | (with_reducible refine Only.setCell ?_ ?_ _) | (with_reducible refine Only.then0 ?_ (by with_reducible assumption)) | (with_reducible refine Only.thenN ?_ (by with_reducible assumption) ?_) | (with_reducible refine Only.trans ?_ (by with_reducible assumption)) | (refine .inl ?_; first | rfl | (simp; done) | (simp [Ar.blk]; done)) | (refine .inr ?_; first | omega | (simp; done) | (simp; omega) | exact Only.size (by with_reducible assumption) | (refine Nat.le_trans (Only.size (by with_reducible assumption)) ?_; simp; done))))).mono ?_
          rintro e w4 ⟨rfl, o4⟩
          go_wp2_with fail
          go_returns
          exact ⟨rfl, by repeat' (first | (with_reducible exact Only.refl _ _) | (with_reducible assumption) | (refine Only.of_none ?_; with_reducible assumption) | (with_reducible refine Only.drewN ?_ _) | (with_reducible refine Only.drew ?_) | (with_reducible refine Only.alloc ?_ _) | (with_reducible refine Only.setCell ?_ ?_ _) | (with_reducible refine Only.then0 ?_ (by with_reducible assumption)) | (with_reducible refine Only.thenN ?_ (by with_reducible assumption) ?_) | (with_reducible refine Only.trans ?_ (by with_reducible assumption)) | (refine .inl ?_; first | rfl | (simp; done) | (simp [Ar.blk]; done)) | (refine .inr ?_; first | omega | (simp; done) | (simp; omega) | exact Only.size (by with_reducible assumption) | (refine Nat.le_trans (Only.size (by with_reducible assumption)) ?_; simp; done)))⟩
  · rw [if_pos (by simpa using h1)]
    have e1 : inB p 1000000000 = false := by simpa [inB] using h1
    rw [e1] at HW
    generalize sdN q = s at *
    clear h h1 e1
    go_enter Try.func73, Try.ntmps73
    go_wp2_with fail
    refine H.out.mono ?_
    rintro e w1 ⟨rfl, rfl⟩
    go_wp2_with fail
    refine HW.out.mono ?_
    rintro e w1 ⟨rfl, rfl⟩
    go_wp2_with fail
    go_returns
    exact ⟨rfl, by repeat' (first | (with_reducible exact Only.refl _ _) | (with_reducible assumption) | (refine Only.of_none ?_; with_reducible assumption) | (with_reducible refine Only.drewN ?_ _) | (with_reducible refine Only.drew ?_) | (with_reducible refine Only.alloc ?_ _) | (with_reducible refine Only.setCell ?_ ?_ _) | (with_reducible refine Only.then0 ?_ (by with_reducible assumption)) | (with_reducible refine Only.thenN ?_ (by with_reducible assumption) ?_) | (with_reducible refine Only.trans ?_ (by with_reducible assumption)) | (refine .inl ?_; first | rfl | (simp; done) | (simp [Ar.blk]; done)) | (refine .inr ?_; first | omega | (simp; done) | (simp; omega) | exact Only.size (by with_reducible assumption) | (refine Nat.le_trans (Only.size (by with_reducible assumption)) ?_; simp; done)))⟩
end
end Go.Proofs.Ytilngakgofjmpaa

/- The book: Insert where it refuses; a book of which one side, the arena and the map have turned. Conditions: a book as its New lays it. -/
namespace Go.Proofs.Ytilngakgofjmpaa
set_option linter.unusedVariables false
set_option linter.unusedSimpArgs false
open Go.RowKit
open Od (OrdR Lay FreeN Blk4)

section
variable {w : World} {b : Nat} {bs gu : Bool → Nat} {hv : Bool → Value} {ba gl gr gf bm most room : Nat} {L : Bool → List (Int × Nat)} {R : Nat → List Nat} {V : Nat → OrdR} {F : Int → Option Int} {l : Bool → List OrdR}

/-- What an insertion, a removal, a change may turn. -/
def BkS (bs gu : Bool → Nat) (hv : Bool → Value) (ba gl gr gf bm : Nat) (q : Bool) (i : Nat) : Prop := SdB (bs q) (gu q) (hv q) i ∨ Blk4 ba gl gr gf i ∨ i = bm

theorem BookM.swap (h : BookM w b bs gu hv ba gl gr gf bm most room L R V F l) {w' : World} (q : Bool) {hv' : Value} {L' : List (Int × Nat)} {R' : Nat → List Nat} {V' : Nat → OrdR} {F' : Int → Option Int} {l' : Bool → List OrdR}
    (o : Only (BkS bs gu hv ba gl gr gf bm q) w w') (sd' : SideAt w' (bs q) (gu q) most (sgn q) hv' L') (loc : hv'.ownBlock = (hv q).ownBlock ∨ ∃ g, hv'.ownBlock = some g ∧ w.heap.size ≤ g)
    (lay' : Lay w' ba gl gr gf (2 * most + 1) room R' V') (im' : IMap w' bm F' ((l' false).length + (l' true).length)) (rep' : BkRep most room (setS L q L') R' V' F' l') :
    BookM w' b bs gu (setS hv q hv') ba gl gr gf bm most room (setS L q L') R' V' F' l' ∧ (∀ i, BkT b bs gu (setS hv q hv') ba gl gr gf bm i → BkT b bs gu hv ba gl gr gf bm i ∨ w.heap.size ≤ i) := by
  have hb : ¬ BkS bs gu hv ba gl gr gf bm q b := by
    rintro (h1 | h1 | h1)
    · exact h.db.1 q h1
    · exact h.db.2.1 h1
    · exact h.db.2.2 h1
  have old : ∀ k i, SdB (bs k) (gu k) (setS hv q hv' k) i → SdB (bs k) (gu k) (hv k) i ∨ (k = q ∧ w.heap.size ≤ i) := by
    intro k i hi
    by_cases e : k = q
    · subst e
      rw [setS_same] at hi
      rcases hi with h1 | h1 | h1
      · exact .inl (.inl h1)
      · exact .inl (.inr (.inl h1))
      · rcases loc with h2 | ⟨g, h2, h3⟩
        · exact .inl (.inr (.inr (by rw [← h2]; exact h1)))
        · rw [h2] at h1; injection h1 with h1; exact .inr ⟨rfl, by omega⟩
    · rw [setS_other e] at hi; exact .inl hi
  have lt := h.lt
  refine ⟨⟨h.c0.only o hb, h.c1.only o hb, h.c2.only o hb, h.c3.only o hb, h.c4.only o hb, h.c5.only o hb, h.c6.only o hb, fun k => ?_, lay', im', rep', ⟨fun k hk => ?_, h.db.2⟩, fun i h1 h2 => ?_, fun k i hk => ?_, h.da, h.small⟩, fun i hi => ?_⟩
  · by_cases e : k = q
    · subst e; rw [setS_same, setS_same]; exact sd'
    · rw [setS_other e, setS_other e]
      refine SideU.only (h.sd k) o fun i hi => ?_
      rintro (h1 | h1 | h1)
      · cases k <;> cases q <;> simp at e
        · exact h.ds i hi h1
        · exact h.ds i h1 hi
      · exact (h.dq k i hi).1 h1
      · exact (h.dq k i hi).2 h1
  · rcases old k b hk with h1 | ⟨_, h1⟩
    · exact h.db.1 k h1
    · have := lt b (.inl rfl); omega
  · rcases old false i h1 with h3 | ⟨h3, h5⟩
    · rcases old true i h2 with h4 | ⟨h4, h5⟩
      · exact h.ds i h3 h4
      · have := lt i (.inr (.inl ⟨false, h3⟩)); omega
    · rcases old true i h2 with h4 | ⟨h4, h6⟩
      · have := lt i (.inr (.inl ⟨true, h4⟩)); omega
      · rw [← h3] at h4; cases h4
  · rcases old k i hk with h1 | ⟨_, h1⟩
    · exact h.dq k i h1
    · exact ⟨fun h2 => by have := lt i (.inr (.inr (.inl h2))); omega, fun h2 => by have := lt i (.inr (.inr (.inr h2))); omega⟩
  · rcases hi with h1 | ⟨k, h1⟩ | h1 | h1
    · exact .inl (.inl h1)
    · rcases old k i h1 with h2 | ⟨_, h2⟩
      · exact .inl (.inr (.inl ⟨k, h2⟩))
      · exact .inr h2
    · exact .inl (.inr (.inr (.inl h1)))
    · exact .inl (.inr (.inr (.inr h1)))
theorem BookM.post (h : BookM w b bs gu hv ba gl gr gf bm most room L R V F l) {w' : World} (q : Bool) {hv' : Value} {L' : List (Int × Nat)} {R' : Nat → List Nat} {V' : Nat → OrdR} {F' : Int → Option Int} {l' : Bool → List OrdR} {v : Value} {e : Ending} (he : e = .returned v)
    (o : Only (BkS bs gu hv ba gl gr gf bm q) w w') (sd' : SideAt w' (bs q) (gu q) most (sgn q) hv' L') (loc : hv'.ownBlock = (hv q).ownBlock ∨ ∃ g, hv'.ownBlock = some g ∧ w.heap.size ≤ g)
    (lay' : Lay w' ba gl gr gf (2 * most + 1) room R' V') (im' : IMap w' bm F' ((l' false).length + (l' true).length)) (rep' : BkRep most room (setS L q L') R' V' F' l') :
    BkPost w b (BkT b bs gu hv ba gl gr gf bm) most room l' v e w' := by
  obtain ⟨h1, h2⟩ := h.swap q o sd' loc lay' im' rep'
  exact ⟨_, he, h1.bk, o.mono fun i _ hi => by
    rcases hi with h3 | h3 | h3
    · exact .inr (.inl ⟨q, h3⟩)
    · exact .inr (.inr (.inl h3))
    · exact .inr (.inr (.inr h3)), h2⟩
theorem BookM.stay (h : BookM w b bs gu hv ba gl gr gf bm most room L R V F l) {w' : World} {v : Value} {e : Ending} (he : e = .returned v) (o : Only (fun _ => False) w w') : BkPost w b (BkT b bs gu hv ba gl gr gf bm) most room l v e w' :=
  ⟨_, he, (h.only o (fun _ _ => id)).bk, Only.of_none o, fun _ hi => .inl hi⟩

/-- May an order rest? -/
def mayB (o : OrdR) : Bool := decide (1 ≤ o.i) && inB o.c 8 && sidedB o.s && inB o.p 1000000000 && inB o.q 1000000000

set_option maxRecDepth 100000 in
set_option maxHeartbeats 2000000 in
theorem k_ins_bad (o : OrdR) (hm : mayB o = false) : Calls Try.prog 30 #[.pointer (some ⟨b, 0, none⟩), ordV o] w fun e w' => e = .returned (.int .i64 1) ∧ Only (fun _ => False) w w' := by
  obtain ⟨oi, oc, os, op, oq⟩ := o
  unfold mayB at hm
  unfold ordV
  simp only at hm ⊢
  by_cases h1 : 1 ≤ oi
  · have t1 : decide (1 ≤ oi) = true := by simpa using h1
    cases h2 : inB oc 8 with
    | true =>
      cases h3 : sidedB os with
      | true =>
        cases h4 : inB op 1000000000 with
        | true =>
          have h5 : inB oq 1000000000 = false := by rw [t1, h2, h3, h4] at hm; simpa using hm
          clear hm h1
          go_enter Try.func30, Try.ntmps30
          go_wp2_with (first | (go_at_call 75; refine (k_within _ _ _).mono ?_; rintro e w1 ⟨rfl, rfl⟩) | (go_at_call 76; refine (k_sided _ _).mono ?_; rintro e w1 ⟨rfl, rfl⟩))
          go_returns
          exact ⟨rfl, by repeat' (first | (with_reducible exact Only.refl _ _) | (with_reducible assumption) | (refine Only.of_none ?_; with_reducible assumption) | (with_reducible refine Only.drewN ?_ _) | (with_reducible refine Only.drew ?_) | (with_reducible refine Only.alloc ?_ _) | (with_reducible refine Only.setCell ?_ ?_ _) | (with_reducible refine Only.then0 ?_ (by with_reducible assumption)) | (with_reducible refine Only.thenN ?_ (by with_reducible assumption) ?_) | (with_reducible refine Only.trans ?_ (by with_reducible assumption)) | (refine .inl ?_; first | rfl | (simp; done) | (simp [Ar.blk]; done)) | (refine .inr ?_; first | omega | (simp; done) | (simp; omega) | exact Only.size (by with_reducible assumption) | (refine Nat.le_trans (Only.size (by with_reducible assumption)) ?_; simp; done)))⟩
        | false =>
          clear hm h1
          go_enter Try.func30, Try.ntmps30
          go_wp2_with (first | (go_at_call 75; refine (k_within _ _ _).mono ?_; rintro e w1 ⟨rfl, rfl⟩) | (go_at_call 76; refine (k_sided _ _).mono ?_; rintro e w1 ⟨rfl, rfl⟩))
          go_returns
          exact ⟨rfl, by repeat' (first | (with_reducible exact Only.refl _ _) | (with_reducible assumption) | (refine Only.of_none ?_; with_reducible assumption) | (with_reducible refine Only.drewN ?_ _) | (with_reducible refine Only.drew ?_) | (with_reducible refine Only.alloc ?_ _) | (with_reducible refine Only.setCell ?_ ?_ _) | (with_reducible refine Only.then0 ?_ (by with_reducible assumption)) | (with_reducible refine Only.thenN ?_ (by with_reducible assumption) ?_) | (with_reducible refine Only.trans ?_ (by with_reducible assumption)) | (refine .inl ?_; first | rfl | (simp; done) | (simp [Ar.blk]; done)) | (refine .inr ?_; first | omega | (simp; done) | (simp; omega) | exact Only.size (by with_reducible assumption) | (refine Nat.le_trans (Only.size (by with_reducible assumption)) ?_; simp; done)))⟩
      | false =>
        clear hm h1
        go_enter Try.func30, Try.ntmps30
        go_wp2_with (first | (go_at_call 75; refine (k_within _ _ _).mono ?_; rintro e w1 ⟨rfl, rfl⟩) | (go_at_call 76; refine (k_sided _ _).mono ?_; rintro e w1 ⟨rfl, rfl⟩))
        go_returns
        exact ⟨rfl, by repeat' (first | (with_reducible exact Only.refl _ _) | (with_reducible assumption) | (refine Only.of_none ?_; with_reducible assumption) | (with_reducible refine Only.drewN ?_ _) | (with_reducible refine Only.drew ?_) | (with_reducible refine Only.alloc ?_ _) | (with_reducible refine Only.setCell ?_ ?_ _) | (with_reducible refine Only.then0 ?_ (by with_reducible assumption)) | (with_reducible refine Only.thenN ?_ (by with_reducible assumption) ?_) | (with_reducible refine Only.trans ?_ (by with_reducible assumption)) | (refine .inl ?_; first | rfl | (simp; done) | (simp [Ar.blk]; done)) | (refine .inr ?_; first | omega | (simp; done) | (simp; omega) | exact Only.size (by with_reducible assumption) | (refine Nat.le_trans (Only.size (by with_reducible assumption)) ?_; simp; done)))⟩
    | false =>
      clear hm h1
      go_enter Try.func30, Try.ntmps30
      go_wp2_with (first | (go_at_call 75; refine (k_within _ _ _).mono ?_; rintro e w1 ⟨rfl, rfl⟩) | (go_at_call 76; refine (k_sided _ _).mono ?_; rintro e w1 ⟨rfl, rfl⟩))
      go_returns
      exact ⟨rfl, by repeat' (first | (with_reducible exact Only.refl _ _) | (with_reducible assumption) | (refine Only.of_none ?_; with_reducible assumption) | (with_reducible refine Only.drewN ?_ _) | (with_reducible refine Only.drew ?_) | (with_reducible refine Only.alloc ?_ _) | (with_reducible refine Only.setCell ?_ ?_ _) | (with_reducible refine Only.then0 ?_ (by with_reducible assumption)) | (with_reducible refine Only.thenN ?_ (by with_reducible assumption) ?_) | (with_reducible refine Only.trans ?_ (by with_reducible assumption)) | (refine .inl ?_; first | rfl | (simp; done) | (simp [Ar.blk]; done)) | (refine .inr ?_; first | omega | (simp; done) | (simp; omega) | exact Only.size (by with_reducible assumption) | (refine Nat.le_trans (Only.size (by with_reducible assumption)) ?_; simp; done)))⟩
  · have t1 : decide (1 ≤ oi) = false := by simpa using h1
    clear hm h1
    go_enter Try.func30, Try.ntmps30
    go_wp2_with fail
    go_returns
    exact ⟨rfl, by repeat' (first | (with_reducible exact Only.refl _ _) | (with_reducible assumption) | (refine Only.of_none ?_; with_reducible assumption) | (with_reducible refine Only.drewN ?_ _) | (with_reducible refine Only.drew ?_) | (with_reducible refine Only.alloc ?_ _) | (with_reducible refine Only.setCell ?_ ?_ _) | (with_reducible refine Only.then0 ?_ (by with_reducible assumption)) | (with_reducible refine Only.thenN ?_ (by with_reducible assumption) ?_) | (with_reducible refine Only.trans ?_ (by with_reducible assumption)) | (refine .inl ?_; first | rfl | (simp; done) | (simp [Ar.blk]; done)) | (refine .inr ?_; first | omega | (simp; done) | (simp; omega) | exact Only.size (by with_reducible assumption) | (refine Nat.le_trans (Only.size (by with_reducible assumption)) ?_; simp; done)))⟩

/-- The test's five parts. -/
theorem mayB_parts {o : OrdR} (hm : mayB o = true) : decide (1 ≤ o.i) = true ∧ inB o.c 8 = true ∧ sidedB o.s = true ∧ inB o.p 1000000000 = true ∧ inB o.q 1000000000 = true := by
  unfold mayB at hm
  simp only [Bool.and_eq_true] at hm
  exact ⟨hm.1.1.1.1, hm.1.1.1.2, hm.1.1.2, hm.1.2, hm.2⟩

set_option maxRecDepth 100000 in
set_option maxHeartbeats 2000000 in
theorem k_ins_twice (h : BookM w b bs gu hv ba gl gr gf bm most room L R V F l) (o : OrdR) (hm : mayB o = true) (hw : Wf o.i) (hf : (F o.i).isSome = true) :
    Calls Try.prog 30 #[.pointer (some ⟨b, 0, none⟩), ordV o] w fun e w' => e = .returned (.int .i64 62) ∧ Only (fun _ => False) w w' := by
  obtain ⟨h1, h2, h3, h4, h5⟩ := mayB_parts hm
  obtain ⟨oi, oc, os, op, oq⟩ := o
  unfold ordV
  simp only at *
  have o0 := (Only.refl (fun _ => False) w).alloc (.cells #[.int .i64 oi, .int .i64 oc, .int .u8 os, .int .i64 op, .int .i64 oq] 54)
  have c5 := (h.only o0 (fun _ _ => id)).c5.cell
  have hl := fun n => (h.only (o0.drewN n) (fun _ _ => id)).im.look hw
  obtain ⟨v, hv⟩ : ∃ v, v = (F oi).getD 0 := ⟨_, rfl⟩
  rw [hf, ← hv] at hl
  have z0 := h.c5.lt
  clear h hm hw hf o0 hv
  go_enter Try.func30, Try.ntmps30
  go_wp2_with (first | (go_at_call 75; refine (k_within _ _ _).mono ?_; rintro e w1 ⟨rfl, rfl⟩) | (go_at_call 76; refine (k_sided _ _).mono ?_; rintro e w1 ⟨rfl, rfl⟩))
  go_quiet (fail)
  go_wp2_with fail
  go_returns
  exact ⟨rfl, by repeat' (first | (with_reducible exact Only.refl _ _) | (with_reducible assumption) | (refine Only.of_none ?_; with_reducible assumption) | (with_reducible refine Only.drewN ?_ _) | (with_reducible refine Only.drew ?_) | (with_reducible refine Only.alloc ?_ _) | (with_reducible refine Only.setCell ?_ ?_ _) | (with_reducible refine Only.then0 ?_ (by with_reducible assumption)) | (with_reducible refine Only.thenN ?_ (by with_reducible assumption) ?_) | (with_reducible refine Only.trans ?_ (by with_reducible assumption)) | (refine .inl ?_; first | rfl | (simp; done) | (simp [Ar.blk]; done)) | (refine .inr ?_; first | omega | (simp; done) | (simp; omega) | exact Only.size (by with_reducible assumption) | (refine Nat.le_trans (Only.size (by with_reducible assumption)) ?_; simp; done)))⟩

set_option maxRecDepth 100000 in
set_option maxHeartbeats 2000000 in
theorem k_ins_fits (h : BookM w b bs gu hv ba gl gr gf bm most room L R V F l) (o : OrdR) (q : Bool) (hs : o.s = sdN q) (hm : mayB o = true) (hw : Wf o.i) (hf : F o.i = none) (hE : fitsE most room l q o.p ≠ 0) :
    Calls Try.prog 30 #[.pointer (some ⟨b, 0, none⟩), ordV o] w fun e w' => e = .returned (.int .i64 (fitsE most room l q o.p)) ∧ Only (fun _ => False) w w' := by
  obtain ⟨h1, h2, h3, h4, h5⟩ := mayB_parts hm
  obtain ⟨oi, oc, os, op, oq⟩ := o
  unfold ordV
  simp only at *
  have o0 := (Only.refl (fun _ => False) w).alloc (.cells #[.int .i64 oi, .int .i64 oc, .int .u8 os, .int .i64 op, .int .i64 oq] 54)
  have c5 := (h.only o0 (fun _ _ => id)).c5.cell
  have hl := fun n => (h.only (o0.drewN n) (fun _ _ => id)).im.look hw
  have HF := Lib.hid fun W (o : Only (fun _ => False) w W) => k_fits (h.only o (fun _ _ => id)) q op
  rw [← hs] at HF
  rw [hf] at hl
  simp only [Option.getD_none, Option.isSome_none] at hl
  have z0 := h.c5.lt
  obtain ⟨E, hEE⟩ : ∃ E, E = fitsE most room l q op := ⟨_, rfl⟩
  rw [← hEE] at HF hE ⊢
  have t1 : (E != 0) = true := by simpa using hE
  clear h hm hw hf o0 hE hEE hs
  go_enter Try.func30, Try.ntmps30
  go_wp2_with (first | (go_at_call 75; refine (k_within _ _ _).mono ?_; rintro e w1 ⟨rfl, rfl⟩) | (go_at_call 76; refine (k_sided _ _).mono ?_; rintro e w1 ⟨rfl, rfl⟩))
  go_quiet (fail)
  go_wp2_with fail
  refine (HF.out _ (by repeat' (first | (with_reducible exact Only.refl _ _) | (with_reducible assumption) | (refine Only.of_none ?_; with_reducible assumption) | (with_reducible refine Only.drewN ?_ _) | (with_reducible refine Only.drew ?_) | (with_reducible refine Only.alloc ?_ _) | (with_reducible refine Only.setCell ?_ ?_ _) | (with_reducible refine Only.then0 ?_ (by with_reducible assumption)) | (with_reducible refine Only.thenN ?_ (by with_reducible assumption) ?_) | (with_reducible refine Only.trans ?_ (by with_reducible assumption)) | (refine .inl ?_; first | rfl | (simp; done) | (simp [Ar.blk]; done)) | (refine .inr ?_; first | omega | (simp; done) | (simp; omega) | exact Only.size (by with_reducible assumption) | (refine Nat.le_trans (Only.size (by with_reducible assumption)) ?_; simp; done))))).mono ?_
  rintro e w1 ⟨rfl, o1⟩
  go_wp2_with fail
  go_returns
  exact ⟨rfl, by repeat' (first | (with_reducible exact Only.refl _ _) | (with_reducible assumption) | (refine Only.of_none ?_; with_reducible assumption) | (with_reducible refine Only.drewN ?_ _) | (with_reducible refine Only.drew ?_) | (with_reducible refine Only.alloc ?_ _) | (with_reducible refine Only.setCell ?_ ?_ _) | (with_reducible refine Only.then0 ?_ (by with_reducible assumption)) | (with_reducible refine Only.thenN ?_ (by with_reducible assumption) ?_) | (with_reducible refine Only.trans ?_ (by with_reducible assumption)) | (refine .inl ?_; first | rfl | (simp; done) | (simp [Ar.blk]; done)) | (refine .inr ?_; first | omega | (simp; done) | (simp; omega) | exact Only.size (by with_reducible assumption) | (refine Nat.le_trans (Only.size (by with_reducible assumption)) ?_; simp; done)))⟩
end
end Go.Proofs.Ytilngakgofjmpaa

/- The book: Insert where it lays an order down. Conditions: a book as its New lays it. -/
namespace Go.Proofs.Ytilngakgofjmpaa
set_option linter.unusedVariables false
set_option linter.unusedSimpArgs false
open Go.RowKit
open Od (OrdR Lay FreeN Blk4)

theorem wf_small {x : Int} (h0 : 0 ≤ x) (h1 : x ≤ 1000000) : Wf x := wf_of (by omega) (by omega)
/-- What Find tells. -/
def FindPost (p : Int) (L : List (Int × Nat)) (w : World) (e : Ending) (w' : World) : Prop := ∃ x : Int, e = .returned (.int .i64 x) ∧ Only (fun _ => False) w w' ∧ ((∃ r : Nat, x = r ∧ (p, r) ∈ L) ∨ (x = -1 ∧ has p L = false))
theorem s_find_any {w : World} {b gu most : Nat} {sg : Int} {hv : Value} {L : List (Int × Nat)} (h : SideAt w b gu most sg hv L) (p : Int) : Calls Try.prog 22 #[.pointer (some ⟨b, 0, none⟩), .int .i64 p] w (FindPost p L w) := by
  cases hp : has p L with
  | true =>
    obtain ⟨⟨p', r⟩, hx, e⟩ := has_iff.1 hp
    simp only at e
    subst e
    exact (Go.Proofs.Ytilngakgofjmpaa.s_find h p' r hx).mono fun e w' ⟨he, ho⟩ => ⟨_, he, ho, .inl ⟨r, rfl, hx⟩⟩
  | false => exact (Go.Proofs.Ytilngakgofjmpaa.s_find_no h p hp).mono fun e w' ⟨he, ho⟩ => ⟨_, he, ho, .inr ⟨rfl, hp⟩⟩

/-- Ahead of the arena's call: the price has a row. -/
structure InsMid (w wc : World) (bq gq most : Nat) (sg : Int) (hq : Value) (Lq : List (Int × Nat)) (p : Int) (v0 v1 v2 v3 v4 : Value) (g1 fs r : Nat) (hv' : Value) (L' : List (Int × Nat)) : Prop where
  only : Only (SdB bq gq hq) w wc
  sd : SideAt wc bq gq most sg hv' L'
  loc : hv'.ownBlock = hq.ownBlock ∨ ∃ g, hv'.ownBlock = some g ∧ w.heap.size ≤ g
  box : Five wc w.heap.size v0 v1 v2 v3 v4
  hb : wc.cell? ⟨g1, 1, none⟩ = some (.int .i64 (fs : Nat))
  lt : r < most
  alt : (L' = Lq ∧ (p, r) ∈ Lq) ∨ (L' = put sg p r Lq ∧ has p Lq = false ∧ r ∉ Lq.map Prod.snd)

section
variable {w : World} {b : Nat} {bs gu : Bool → Nat} {hv : Bool → Value} {ba gl gr gf bm most room : Nat} {L : Bool → List (Int × Nat)} {R : Nat → List Nat} {V : Nat → OrdR} {F : Int → Option Int} {l : Bool → List OrdR}

/-- An order lies down: the relation behind it. -/
theorem BookM.ins_rep (h : BookM w b bs gu hv ba gl gr gf bm most room L R V F l) {q : Bool} {o : OrdR} {r n : Nat} {L' : List (Int × Nat)} (hr : r < most) (alt : (L' = L q ∧ (o.p, r) ∈ L q) ∨ (L' = put (sgn q) o.p r (L q) ∧ has o.p (L q) = false ∧ r ∉ (L q).map Prod.snd))
    (hs : o.s = sdN q) (hnm : ∀ k, n ∉ nums (fst most k) (L k) R) (ok : Okd o) (hf : F o.i = none) (hlen : (l false).length + (l true).length < room) :
    BkRep most room (setS L q L') (Od.upd R (fst most q + r) (R (fst most q + r) ++ [n])) (Od.upd V n o) (fput F o.i n) (setS l q (insL (sgn q) o (l q))) := by
  have sd := h.sd q
  rcases alt with ⟨rfl, hx⟩ | ⟨rfl, hp, hrn⟩
  · obtain ⟨a1, a2, a3⟩ := (h.rep.half q).push sd.srt sd.nd hx hs (hnm q)
    refine h.rep.insert a1 (by rw [a2, ← h.rep.e q]) a3 (h.rep.lt q) (fun k hk t ht => Od.upd_other (fst_ne hk ht hr)) ?_ hnm ok hf hlen
    rw [Od.upd_other (by have := fst_le most q; omega)]; exact h.rep.h3
  · obtain ⟨a1, a2, a3⟩ := (h.rep.half q).pushNew sd.srt (h.rep.lt q) hp sd.hsg hr hrn hs (hnm q)
    refine h.rep.insert a1 (by rw [a2, ← h.rep.e q]) a3 (fun x hx => ?_) (fun k hk t ht => Od.upd_other (fst_ne hk ht hr)) ?_ hnm ok hf hlen
    · rcases put_mem.1 hx with rfl | hx
      · exact hr
      · exact h.rep.lt q x hx
    · rw [Od.upd_other (by have := fst_le most q; omega)]; exact h.rep.h3
theorem ins_len {l : Bool → List OrdR} (q : Bool) (sg : Int) (o : OrdR) : (setS l q (insL sg o (l q)) false).length + (setS l q (insL sg o (l q)) true).length = (l false).length + (l true).length + 1 := by
  have h1 := (insL_perm sg o (l q)).length_eq
  rw [List.length_cons] at h1
  cases q
  · rw [setS_same, setS_other (by decide)]; omega
  · rw [setS_same, setS_other (by decide)]; omega

set_option maxRecDepth 100000 in
set_option maxHeartbeats 4000000 in
theorem k_ins (h : BookM w b bs gu hv ba gl gr gf bm most room L R V F l) (o : OrdR) (q : Bool) (hs : o.s = sdN q) (hm : mayB o = true) (hw : Wf o.i) (hf : F o.i = none) (hE : fitsE most room l q o.p = 0) (n : Nat)
    (hn : FreeN (2 * most + 1) room R n) (hmin : ∀ m, FreeN (2 * most + 1) room R m → n ≤ m) (hnm : ∀ k, n ∉ nums (fst most k) (L k) R) (hlen : (l false).length + (l true).length < room) (ok : Okd o) :
    Calls Try.prog 30 #[.pointer (some ⟨b, 0, none⟩), ordV o] w (BkPost w b (BkT b bs gu hv ba gl gr gf bm) most room (setS l q (insL (sgn q) o (l q))) (.int .i64 0)) := by
  obtain ⟨h1, h2, h3, h4, h5⟩ := mayB_parts hm
  have HFULL : has o.p (L q) = false → (L q).length < most := fun hp => by
    have hle := (h.sd q).len
    have e1 : ¬ o.p ∈ pricesL (l q) := by
      rw [h.prices q]; exact fun hm => by rw [has_prices.2 hm] at hp; cases hp
    have e2 : (pricesL (l q)).length = (L q).length := by rw [h.prices q, List.length_map]
    have hop : 1 ≤ o.p ∧ o.p ≤ 1000000000 := by unfold inB at h4; simpa using h4
    unfold fitsE at hE
    rw [if_neg (not_not_intro hop), if_neg (by omega), if_neg e1] at hE
    split at hE
    · cases hE
    · omega
  have HFULL := Lib.hid HFULL
  have HREP := Lib.hid fun (r : Nat) (L' : List (Int × Nat)) (hr : r < most) alt => h.ins_rep (q := q) (o := o) (n := n) (L' := L') hr alt hs hnm ok hf hlen
  have HFT := Lib.hid fun W (o1 : Only (fun _ => False) w W) => k_fits (h.only o1 (fun _ _ => id)) q o.p
  rw [hE, ← hs] at HFT
  have HH := Lib.hid fun W (o1 : Only (fun _ => False) w W) => k_half (h.only o1 (fun _ _ => id)) q
  rw [← hs] at HH
  have HFD := Lib.hid fun W (o1 : Only (fun _ => False) w W) => s_find_any (SideU.only (h.sd q) o1 (fun _ _ => id)) o.p
  have HSD := Lib.hid fun W (o1 : Only (fun _ => False) w W) => SideU.only (h.sd q) o1 (fun _ _ => id)
  have HM := Lib.hid h
  have hn1 := hn.1
  have hk0 := h.numLe
  have hsm := h.small
  have hmo := h.mostLe
  have hfl := fst_le most q
  have o0 := (Only.refl (fun _ => False) w).alloc (.cells #[.int .i64 o.i, .int .i64 o.c, .int .u8 o.s, .int .i64 o.p, .int .i64 o.q] 54)
  have HFV := Lib.hid (Five.new w (.int .i64 o.i) (.int .i64 o.c) (.int .u8 o.s) (.int .i64 o.p) (.int .i64 o.q) 54)
  have c5 := (h.only o0 (fun _ _ => id)).c5.cell
  have hl := fun n => (h.only (o0.drewN n) (fun _ _ => id)).im.look hw
  rw [hf] at hl
  simp only [Option.getD_none, Option.isSome_none] at hl
  have z0 := h.c5.lt
  obtain ⟨fs, hfs⟩ : ∃ fs, fs = fst most q := ⟨_, rfl⟩
  have HFS := Lib.hid hfs
  rw [← hfs] at HH hfl
  have HW := Lib.hid hw
  have HF0 := Lib.hid hf
  have HN := Lib.hid hn
  have HMIN := Lib.hid hmin
  have HOP : 1 ≤ o.p ∧ o.p ≤ 1000000000 := by unfold inB at h4; simpa using h4
  obtain ⟨b1, hb1⟩ : ∃ b1, b1 = bs q := ⟨_, rfl⟩
  rw [← hb1] at HH HFD HSD
  have HB1 := Lib.hid hb1
  obtain ⟨oi, oc, os, op, oq⟩ := o
  unfold ordV
  simp only at *
  clear h hm hw hf hE hs hn hmin hnm ok hfs hb1 hlen
  go_enter Try.func30, Try.ntmps30
  go_wp2_with (first | (go_at_call 75; refine (k_within _ _ _).mono ?_; rintro e w1 ⟨rfl, rfl⟩) | (go_at_call 76; refine (k_sided _ _).mono ?_; rintro e w1 ⟨rfl, rfl⟩))
  go_quiet (fail)
  go_wp2_with fail
  refine (HFT.out _ (by repeat' (first | (with_reducible exact Only.refl _ _) | (with_reducible assumption) | (refine Only.of_none ?_; with_reducible assumption) | (with_reducible refine Only.drewN ?_ _) | (with_reducible refine Only.drew ?_) | (with_reducible refine Only.alloc ?_ _) | (with_reducible refine Only.setCell ?_ ?_ _) | (with_reducible refine Only.then0 ?_ (by with_reducible assumption)) | (with_reducible refine Only.thenN ?_ (by with_reducible assumption) ?_) | (with_reducible refine Only.trans ?_ (by with_reducible assumption)) | (refine .inl ?_; first | rfl | (simp; done) | (simp [Ar.blk]; done)) | (refine .inr ?_; first | omega | (simp; done) | (simp; omega) | exact Only.size (by with_reducible assumption) | (refine Nat.le_trans (Only.size (by with_reducible assumption)) ?_; simp; done))))).mono ?_
  rintro e w1 ⟨rfl, o1⟩
  clear HFT hl c5
  have O1 : Only (fun _ => False) w w1 := by repeat' (first | (with_reducible exact Only.refl _ _) | (with_reducible assumption) | (refine Only.of_none ?_; with_reducible assumption) | (with_reducible refine Only.drewN ?_ _) | (with_reducible refine Only.drew ?_) | (with_reducible refine Only.alloc ?_ _) | (with_reducible refine Only.setCell ?_ ?_ _) | (with_reducible refine Only.then0 ?_ (by with_reducible assumption)) | (with_reducible refine Only.thenN ?_ (by with_reducible assumption) ?_) | (with_reducible refine Only.trans ?_ (by with_reducible assumption)) | (refine .inl ?_; first | rfl | (simp; done) | (simp [Ar.blk]; done)) | (refine .inr ?_; first | omega | (simp; done) | (simp; omega) | exact Only.size (by with_reducible assumption) | (refine Nat.le_trans (Only.size (by with_reducible assumption)) ?_; simp; done)))
  have F1 := HFV.out.only (((Only.refl (fun _ => False) _).drewN nq).trans o1) id
  have bx2 := F1.c2.cell
  have zx := cell_lt bx2
  have HF1 := Lib.hid F1
  have HO1 := Lib.hid O1
  clear F1 o1 o0 O1 HFV
  go_wp2_with fail
  refine (HH.out _ HO1.out).mono ?_
  rintro e w2 ⟨rfl, o2⟩
  have F2 := HF1.out.only (o2.alloc (.cells #[.pointer (some ⟨b1, 0, none⟩), .int .i64 (fs : Nat)] 150)) id
  have by3 := F2.c3.cell
  have zy := cell_lt by3
  have B2 : (w2.alloc (.cells #[.pointer (some ⟨b1, 0, none⟩), .int .i64 (fs : Nat)] 150)).cell? ⟨w2.heap.size, 1, none⟩ = some (.int .i64 (fs : Nat)) := (Cell.new rfl).cell
  have O2 : Only (fun _ => False) w (w2.alloc (.cells #[.pointer (some ⟨b1, 0, none⟩), .int .i64 (fs : Nat)] 150)) := (HO1.out.trans o2).alloc _
  have HF2 := Lib.hid F2
  have HB2 := Lib.hid B2
  have HO2 := Lib.hid O2
  have zz := o2.size
  clear F2 B2 o2 O2
  go_wp2_with fail
  refine (HFD.out _ HO2.out).mono ?_
  intro e w3 hpost
  obtain ⟨x, rfl, o3, hx⟩ := hpost
  have F3 := HF2.out.only o3 id
  have B3 : w3.cell? ⟨w2.heap.size, 1, none⟩ = some (.int .i64 (fs : Nat)) := o3.cell HB2.out id
  have B30 : w3.cell? ⟨w2.heap.size, 0, none⟩ = some (.pointer (some ⟨b1, 0, none⟩)) := o3.cell (Cell.new rfl).cell id
  have O3 := HO2.out.trans o3
  have bz3 := F3.c3.cell
  have zw := cell_lt B3
  have HF3 := Lib.hid F3
  have HB3 := Lib.hid B3
  have HO3 := Lib.hid O3
  have HX := Lib.hid hx
  have zg : w.heap.size < w2.heap.size := by omega
  obtain ⟨g1, hg1⟩ : ∃ g1, w2.heap.size = g1 := ⟨_, rfl⟩
  rw [hg1] at B30 HB3 zw zg ⊢
  clear F3 B3 o3 O3 HFD HF1 HO1 HF2 HB2 HO2 zz hx HH by3 zy bx2 zx hg1
  go_upto_if 66 with fail
  go_cut [10] (fun s10 wc => ∃ (r : Nat) (hv' : Value) (L' : List (Int × Nat)), s10 = .int .i64 (r : Nat) ∧ InsMid w wc b1 (gu q) most (sgn q) (hv q) (L q) op (.int .i64 oi) (.int .i64 oc) (.int .u8 os) (.int .i64 op) (.int .i64 oq) g1 fs r hv' L')
  case first =>
    rcases HX.out with ⟨r, rfl, hx⟩ | ⟨rfl, hp⟩
    · have t1 : decide ((r : Int) < 0) = false := by simp
      have hr := (HSD.out _ HO3.out).lt _ hx
      clear HX
      have HHX := Lib.hid hx
      clear hx
      go_wp2_with fail
      go_meet
      exact ⟨r, _, _, rfl, ⟨Only.of_none HO3.out, HSD.out _ HO3.out, .inl rfl, HF3.out, HB3.out, hr, .inl ⟨rfl, HHX.out⟩⟩⟩
    · obtain ⟨r, r1, r2, r3⟩ := free_row (HFULL.out hp)
      have HA := Lib.hid (Go.Proofs.Ytilngakgofjmpaa.s_add (HSD.out _ HO3.out) op HOP.1 HOP.2 hp r r1 r2 r3 (HFULL.out hp))
      have HP := Lib.hid hp
      have HR2 := Lib.hid r2
      clear HX hp r2 r3
      go_wp2_with fail
      refine HA.out.mono ?_
      intro e w4 hpost
      obtain ⟨hv', rfl, sd4, o4, loc4⟩ := hpost
      have HMID : InsMid w w4 b1 (gu q) most (sgn q) (hv q) (L q) op (.int .i64 oi) (.int .i64 oc) (.int .u8 os) (.int .i64 op) (.int .i64 oq) g1 fs r hv' (put (sgn q) op r (L q)) := by
        have hlt : ∀ i, SdB b1 (gu q) (hv q) i → i < w.heap.size := fun i hi => HM.out.lt i (.inr (.inl ⟨q, by rw [← HB1.out]; exact hi⟩))
        refine ⟨(Only.of_none HO3.out).trans o4, sd4, ?_, HF3.out.only o4 fun hi => by have := hlt _ hi; omega, o4.cell HB3.out fun hi => by have := hlt _ hi; omega, r1, .inr ⟨rfl, HP.out, HR2.out⟩⟩
        rcases loc4 with e | ⟨g, e, hg⟩
        · exact .inl e
        · exact .inr ⟨g, e, Nat.le_trans HO3.out.size hg⟩
      have HMID := Lib.hid HMID
      clear sd4 o4 loc4 HA
      go_wp2_with fail
      go_meet
      exact ⟨r, _, _, rfl, HMID.out⟩
  case rest =>
    obtain ⟨r, hv', L', rfl, hmid⟩ := hcut
    have M := HM.out
    have hbS : ¬ SdB b1 (gu q) (hv q) b := by rw [HB1.out]; exact M.db.1 q
    have c4 := (M.c4.only hmid.only hbS).cell
    have c5 := (M.c5.only hmid.only hbS).cell
    have hbm : ¬ SdB b1 (gu q) (hv q) bm := by rw [HB1.out]; exact fun hi => (M.dq q bm hi).2 rfl
    have HLAY := M.lay.keep hmid.only (fun i hi hj => by rw [HB1.out] at hj; exact (M.dq q i hj).1 hi)
    have HIMc := M.im.only hmid.only hbm
    have b4 : ∀ i, Blk4 ba gl gr gf i → i < w.heap.size := fun i hi => M.lay.blk i hi
    have d1 := hmid.box.c0.cell; have d2 := hmid.box.c1.cell; have d3 := hmid.box.c2.cell; have d4 := hmid.box.c3.cell; have d5 := hmid.box.c4.cell
    have d6 := hmid.hb
    have hS4 : ∀ i, (Blk4 ba gl gr gf i ∨ i = bm) → i < w.heap.size := fun i hi => hi.elim (b4 i) (fun e => e ▸ M.im.lt)
    have KEEP := fun W (o : Only (fun i => Blk4 ba gl gr gf i ∨ i = bm) wc W) => Lib.hid (show W.cell? ⟨b, 5, none⟩ = some (.map (some bm)) ∧ W.cell? ⟨b, 4, none⟩ = some (.pointer (some ⟨ba, 0, none⟩)) ∧ W.cell? ⟨g1, 1, none⟩ = some (.int .i64 (fs : Nat)) ∧ W.cell? ⟨w.heap.size, 0, none⟩ = some (.int .i64 oi) ∧ W.cell? ⟨w.heap.size, 1, none⟩ = some (.int .i64 oc) ∧ W.cell? ⟨w.heap.size, 2, none⟩ = some (.int .u8 os) ∧ W.cell? ⟨w.heap.size, 3, none⟩ = some (.int .i64 op) ∧ W.cell? ⟨w.heap.size, 4, none⟩ = some (.int .i64 oq) from ⟨o.cell c5 (fun hi => hi.elim M.db.2.1 M.db.2.2), o.cell c4 (fun hi => hi.elim M.db.2.1 M.db.2.2), o.cell d6 (fun hi => by have := hS4 _ hi; omega), o.cell d1 (fun hi => by have := hS4 _ hi; omega), o.cell d2 (fun hi => by have := hS4 _ hi; omega), o.cell d3 (fun hi => by have := hS4 _ hi; omega), o.cell d4 (fun hi => by have := hS4 _ hi; omega), o.cell d5 (fun hi => by have := hS4 _ hi; omega)⟩)
    have HP := Lib.hid fun W (o1 : Only (fun _ => False) wc W) => Od.h_push W ba gl gr gf (2 * most + 1) room R V (HLAY.keep o1 (fun _ _ => id)) (fs + r) n ⟨oi, oc, os, op, oq⟩ (by have := hmid.lt; omega) HN.out HMIN.out
    simp only [Int.natCast_add] at HP
    have HIM := Lib.hid fun W (o1 : Only (Blk4 ba gl gr gf) wc W) => HIMc.only o1 (fun hi => M.da bm hi rfl)
    have hrl := hmid.lt
    have ww : IntKind.i64.wrap ((fs : Int) + (r : Int)) = (fs : Int) + (r : Int) := by rw [IntKind.wrap_i64]; omega
    have HMID := Lib.hid hmid
    have HDA := Lib.hid M.da
    have HK := Lib.hid (show (l false).length + (l true).length ≤ 65536 by omega)
    have z1 := cell_lt c5
    have z2 := cell_lt d1
    have z3 := cell_lt d6
    have HNW := Lib.hid (show Wf (n : Int) from wf_small (by omega) (by omega))
    clear M hbS HLAY HIMc b4 hS4 hmid hbm HFULL HSD HF3 HB3 HO3 HX bz3 zw B30 hk0 hsm hmo hfl hrl hn1
    go_wp2_with fail
    go_region_held3 (fun W => W.cell? ⟨b, 5, none⟩ = some (.map (some bm)) ∧ W.cell? ⟨b, 4, none⟩ = some (.pointer (some ⟨ba, 0, none⟩)) ∧ W.cell? ⟨g1, 1, none⟩ = some (.int .i64 (fs : Nat)) ∧ W.cell? ⟨w.heap.size, 0, none⟩ = some (.int .i64 oi) ∧ W.cell? ⟨w.heap.size, 1, none⟩ = some (.int .i64 oc) ∧ W.cell? ⟨w.heap.size, 2, none⟩ = some (.int .u8 os) ∧ W.cell? ⟨w.heap.size, 3, none⟩ = some (.int .i64 op) ∧ W.cell? ⟨w.heap.size, 4, none⟩ = some (.int .i64 oq))
      (first | (refine (KEEP _ ?_).out; (repeat' (first | (with_reducible exact Only.refl _ _) | (with_reducible assumption) | (refine Only.of_none ?_; with_reducible assumption) | (with_reducible refine Only.drewN ?_ _) | (with_reducible refine Only.drew ?_) | (with_reducible refine Only.alloc ?_ _) | (with_reducible refine Only.setCell ?_ ?_ _) | (with_reducible refine Only.then0 ?_ (by with_reducible assumption)) | (with_reducible refine Only.thenN ?_ (by with_reducible assumption) ?_) | (with_reducible refine Only.trans ?_ (by with_reducible assumption)) | (refine .inl ?_; first | rfl | (simp; done) | (simp [Ar.blk]; done)) | (refine .inr ?_; first | omega | (simp; done) | (simp; omega) | exact Only.size (by with_reducible assumption) | (refine Nat.le_trans (Only.size (by with_reducible assumption)) ?_; simp; done)))); done))
      (first | (go_at_call 78; refine (HP.out _ (by repeat' (first | (with_reducible exact Only.refl _ _) | (with_reducible assumption) | (refine Only.of_none ?_; with_reducible assumption) | (with_reducible refine Only.drewN ?_ _) | (with_reducible refine Only.drew ?_) | (with_reducible refine Only.alloc ?_ _) | (with_reducible refine Only.setCell ?_ ?_ _) | (with_reducible refine Only.then0 ?_ (by with_reducible assumption)) | (with_reducible refine Only.thenN ?_ (by with_reducible assumption) ?_) | (with_reducible refine Only.trans ?_ (by with_reducible assumption)) | (refine .inl ?_; first | rfl | (simp; done) | (simp [Ar.blk]; done)) | (refine .inr ?_; first | omega | (simp; done) | (simp; omega) | exact Only.size (by with_reducible assumption) | (refine Nat.le_trans (Only.size (by with_reducible assumption)) ?_; simp; done))))).mono ?_; rintro e w7 ⟨rfl, lay7, o7⟩; have OO : Only (Blk4 ba gl gr gf) wc w7 := (by repeat' (first | (with_reducible exact Only.refl _ _) | (with_reducible assumption) | (refine Only.of_none ?_; with_reducible assumption) | (with_reducible refine Only.drewN ?_ _) | (with_reducible refine Only.drew ?_) | (with_reducible refine Only.alloc ?_ _) | (with_reducible refine Only.setCell ?_ ?_ _) | (with_reducible refine Only.then0 ?_ (by with_reducible assumption)) | (with_reducible refine Only.thenN ?_ (by with_reducible assumption) ?_) | (with_reducible refine Only.trans ?_ (by with_reducible assumption)) | (refine .inl ?_; first | rfl | (simp; done) | (simp [Ar.blk]; done)) | (refine .inr ?_; first | omega | (simp; done) | (simp; omega) | exact Only.size (by with_reducible assumption) | (refine Nat.le_trans (Only.size (by with_reducible assumption)) ?_; simp; done)))); obtain ⟨w8, hr8, im8, o8⟩ := (HIM.out w7 OO).store HK.out HW.out HNW.out; rw [HF0.out] at im8; have HL7 := Lib.hid lay7; have HI8 := Lib.hid im8; have HOO := Lib.hid OO; have HO8 := Lib.hid o8; have OO7 : Only (fun i => Blk4 ba gl gr gf i ∨ i = bm) wc w7 := OO.mono (fun i _ hi => .inl hi); have OO8 : Only (fun i => Blk4 ba gl gr gf i ∨ i = bm) wc w8 := OO7.trans (o8.mono (fun i _ hi => .inr hi)); clear lay7 im8 OO o8))
    all_goals
      go_wp2_with fail
      go_returns
      have M := HMID.out
      have o8b : Only (BkS bs gu hv ba gl gr gf bm q) wc w8 := (HOO.out.mono fun i _ hi => .inr (.inl hi)).trans (HO8.out.mono fun i _ hi => .inr (.inr hi))
      have hsd8 := SideU.only (SideU.only M.sd HOO.out (fun i hi hj => by
        rcases hi with h1 | h1 | h1
        · exact (HM.out.dq q i (by rw [← HB1.out]; exact .inl h1)).1 hj
        · exact (HM.out.dq q i (by rw [← HB1.out]; exact .inr (.inl h1))).1 hj
        · rcases M.loc with h2 | ⟨g, h2, h3⟩
          · exact (HM.out.dq q i (.inr (.inr (by rw [← h2]; exact h1)))).1 hj
          · rw [h2] at h1; injection h1 with h1; have := HM.out.lay.blk i hj; omega)) HO8.out (fun i hi hj => by
        rcases hi with h1 | h1 | h1
        · exact (HM.out.dq q i (by rw [← HB1.out]; exact .inl h1)).2 hj
        · exact (HM.out.dq q i (by rw [← HB1.out]; exact .inr (.inl h1))).2 hj
        · rcases M.loc with h2 | ⟨g, h2, h3⟩
          · exact (HM.out.dq q i (.inr (.inr (by rw [← h2]; exact h1)))).2 hj
          · rw [h2] at h1; injection h1 with h1; have := HM.out.im.lt; omega)
      have hlay8 := HL7.out.keep HO8.out (fun i hi hj => HDA.out i hi hj)
      rw [HB1.out] at hsd8
      rw [HFS.out] at hlay8
      refine HM.out.post q (l' := setS l q (insL (sgn q) ⟨oi, oc, os, op, oq⟩ (l q))) rfl ?_ hsd8 M.loc hlay8 ?_ (HREP.out r L' M.lt M.alt)
      · refine Only.trans ?_ o8b
        have := M.only
        rw [HB1.out] at this
        exact this.mono fun i _ hi => .inl hi
      · rw [ins_len]; exact HI8.out
end
end Go.Proofs.Ytilngakgofjmpaa

/- The book: Remove. Conditions: a book as its New lays it. -/
namespace Go.Proofs.Ytilngakgofjmpaa
set_option linter.unusedVariables false
set_option linter.unusedSimpArgs false
open Go.RowKit
open Od (OrdR Lay FreeN Blk4)

section
variable {w : World} {b : Nat} {bs gu : Bool → Nat} {hv : Bool → Value} {ba gl gr gf bm most room : Nat} {L : Bool → List (Int × Nat)} {R : Nat → List Nat} {V : Nat → OrdR} {F : Int → Option Int} {l : Bool → List OrdR}



/-- Behind the arena's call and the map's: the price may be gone. -/
structure RemMid (w w0 wc : World) (bq gq most : Nat) (sg : Int) (hq : Value) (Lq : List (Int × Nat)) (p : Int) (r : Nat) (gone : Bool) (v0 v1 v2 v3 v4 : Value) (g1 g2 : Nat) (hv' : Value) (L' : List (Int × Nat)) : Prop where
  only : Only (SdB bq gq hq) w0 wc
  sd : SideAt wc bq gq most sg hv' L'
  loc : hv'.ownBlock = hq.ownBlock ∨ ∃ g, hv'.ownBlock = some g ∧ g1 < g
  box : Five wc g1 v0 v1 v2 v3 v4
  res : ∃ u0 u1 u2 u3 u4, Five wc g2 u0 u1 u2 u3 u4
  alt : (gone = false ∧ L' = Lq) ∨ (gone = true ∧ ∃ k, Lq[k]? = some (p, r) ∧ L' = cutAt k Lq)


end
end Go.Proofs.Ytilngakgofjmpaa
