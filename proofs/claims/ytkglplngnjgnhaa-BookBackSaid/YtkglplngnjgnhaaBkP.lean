/- The book, the plain side: prices with rows of numbers, and the orders that they stand for; what lies down, is taken out, is made less. No condition. -/
import Derived.Test.YtkglplngnjgnhaaOrdK
import Derived.Test.YtkglplngnjgnhaaUpto
import Derived.Test.YtkglplngnjgnhaaImap
namespace Go.Proofs.Ytkglplngnjgnhaa
set_option linter.unusedVariables false
set_option linter.unusedSimpArgs false
open Go.RowKit
open Od (OrdR Lay FreeN Blk4)

/-- The orders' numbers, price by price. -/
def nums (first : Nat) (L : List (Int × Nat)) (R : Nat → List Nat) : List Nat := L.flatMap fun x => R (first + x.2)
theorem nums_append (f : Nat) (A B : List (Int × Nat)) (R : Nat → List Nat) : nums f (A ++ B) R = nums f A R ++ nums f B R := by simp [nums]
theorem nums_cons (f : Nat) (x : Int × Nat) (B : List (Int × Nat)) (R : Nat → List Nat) : nums f (x :: B) R = R (f + x.2) ++ nums f B R := by simp [nums]
theorem mem_nums {f : Nat} {L : List (Int × Nat)} {R : Nat → List Nat} {n : Nat} : n ∈ nums f L R ↔ ∃ x ∈ L, n ∈ R (f + x.2) := by simp [nums]
theorem nums_congr {f : Nat} {L : List (Int × Nat)} {R R' : Nat → List Nat} (h : ∀ x ∈ L, R' (f + x.2) = R (f + x.2)) : nums f L R' = nums f L R := by
  induction L with
  | nil => rfl
  | cons x t ih => rw [nums_cons, nums_cons, h x (by simp), ih (fun y hy => h y (by simp [hy]))]
theorem map_upd {V : Nat → OrdR} {n : Nat} {o : OrdR} {l : List Nat} (h : n ∉ l) : l.map (Od.upd V n o) = l.map V :=
  List.map_congr_left fun m hm => Od.upd_other (fun e => h (e ▸ hm))

/-- An order more, behind all that are as good or better. -/
def insL (sg : Int) (o : OrdR) : List OrdR → List OrdR
  | [] => [o]
  | x :: t => if sg * x.p ≤ sg * o.p then x :: insL sg o t else o :: x :: t
theorem insL_mid {sg : Int} {o : OrdR} {X Y : List OrdR} (hX : ∀ x ∈ X, sg * x.p ≤ sg * o.p) (hY : ∀ y ∈ Y, ¬ sg * y.p ≤ sg * o.p) : insL sg o (X ++ Y) = X ++ o :: Y := by
  induction X with
  | nil =>
    cases Y with
    | nil => rfl
    | cons y t => simp only [List.nil_append, insL]; rw [if_neg (hY y (by simp))]
  | cons x t ih =>
    simp only [List.cons_append, insL]
    rw [if_pos (hX x (by simp)), ih (fun y hy => hX y (by simp [hy]))]
theorem insL_perm (sg : Int) (o : OrdR) (l : List OrdR) : (insL sg o l).Perm (o :: l) := by
  induction l with
  | nil => exact List.Perm.refl _
  | cons x t ih =>
    simp only [insL]
    split
    · exact (List.Perm.cons x ih).trans (List.Perm.swap _ _ _)
    · exact List.Perm.refl _
/-- One less. -/
def delL (id : Int) (l : List OrdR) : List OrdR := l.filter fun o => decide (o.i ≠ id)
/-- Another one in its place. -/
def setL (id : Int) (o : OrdR) (l : List OrdR) : List OrdR := l.map fun x => if x.i = id then o else x

theorem delL_mid {V : Nat → OrdR} {A C : List Nat} {n : Nat} (h : ((A ++ n :: C).map V |>.map OrdR.i).Nodup) : delL (V n).i ((A ++ n :: C).map V) = (A ++ C).map V := by
  have key : ∀ X : List Nat, (∀ x ∈ X, (V x).i ≠ (V n).i) → delL (V n).i (X.map V) = X.map V := fun X hX => List.filter_eq_self.2 fun o ho => by
    obtain ⟨m, hm, rfl⟩ := List.mem_map.1 ho
    simpa using hX m hm
  rw [List.map_map, List.map_append, List.map_cons] at h
  have h2 := List.nodup_append.1 h
  have h3 := List.nodup_cons.1 h2.2.1
  have e1 := key A fun x hx e => h2.2.2 _ (List.mem_map.2 ⟨x, hx, rfl⟩) _ (by simp) e
  have e2 := key C fun x hx e => h3.1 (List.mem_map.2 ⟨x, hx, e⟩)
  unfold delL at *
  rw [List.map_append, List.map_cons, List.filter_append, List.filter_cons, e1, e2, List.map_append]
  simp
theorem delL_not {id : Int} {l : List OrdR} (h : ∀ o ∈ l, o.i ≠ id) : delL id l = l := List.filter_eq_self.2 fun o ho => by simpa using h o ho
theorem setL_mid {V : Nat → OrdR} {A C : List Nat} {n : Nat} {o : OrdR} (h : ((A ++ n :: C).map V |>.map OrdR.i).Nodup) (hA : n ∉ A) (hC : n ∉ C) : setL (V n).i o ((A ++ n :: C).map V) = (A ++ n :: C).map (Od.upd V n o) := by
  have key : ∀ X : List Nat, (∀ x ∈ X, (V x).i ≠ (V n).i) → setL (V n).i o (X.map V) = X.map V := fun X hX => by
    unfold setL
    rw [List.map_map]
    exact List.map_congr_left fun m hm => if_neg (hX m hm)
  rw [List.map_map, List.map_append, List.map_cons] at h
  have h2 := List.nodup_append.1 h
  have h3 := List.nodup_cons.1 h2.2.1
  have e1 := key A fun x hx e => h2.2.2 _ (List.mem_map.2 ⟨x, hx, rfl⟩) _ (by simp) e
  have e2 := key C fun x hx e => h3.1 (List.mem_map.2 ⟨x, hx, e⟩)
  unfold setL at *
  rw [List.map_append, List.map_cons, List.map_append, List.map_cons, e1, e2, List.map_append, List.map_cons, map_upd hA, map_upd hC, Od.upd_same, if_pos rfl]
theorem setL_not {id : Int} {o : OrdR} {l : List OrdR} (h : ∀ x ∈ l, x.i ≠ id) : setL id o l = l := by
  unfold setL
  conv => rhs; rw [← List.map_id l]
  exact List.map_congr_left fun x hx => if_neg (h x hx)

/-! ### The two sides: false is Buy, true is Sell -/
def sgn (q : Bool) : Int := if q then 1 else -1
def sdN (q : Bool) : Int := if q then 2 else 1
def fst (most : Nat) (q : Bool) : Nat := if q then most else 0
def setS {α : Type} (f : Bool → α) (q : Bool) (x : α) : Bool → α := fun k => if k = q then x else f k
theorem setS_same {α : Type} (f : Bool → α) (q : Bool) (x : α) : setS f q x q = x := if_pos rfl
theorem setS_other {α : Type} {f : Bool → α} {q k : Bool} {x : α} (h : k ≠ q) : setS f q x k = f k := if_neg h
theorem sgn_or (q : Bool) : sgn q = 1 ∨ sgn q = -1 := by cases q <;> simp [sgn]
theorem fst_le (most : Nat) (q : Bool) : fst most q ≤ most := by cases q <;> simp [fst]
theorem fst_ne {most : Nat} {q k : Bool} (h : k ≠ q) {r s : Nat} (hr : r < most) (hs : s < most) : fst most k + r ≠ fst most q + s := by cases q <;> cases k <;> simp [fst] at h ⊢ <;> omega

/-- One half: its prices' rows hold orders of that price and side; the other rows are empty. -/
structure Half (side : Int) (first most : Nat) (L : List (Int × Nat)) (R : Nat → List Nat) (V : Nat → OrdR) : Prop where
  ne : ∀ x ∈ L, R (first + x.2) ≠ []
  pr : ∀ x ∈ L, ∀ n ∈ R (first + x.2), (V n).p = x.1 ∧ (V n).s = side
  em : ∀ r, r < most → r ∉ L.map Prod.snd → R (first + r) = []

/-- What an order that rests is. -/
def Okd (o : OrdR) : Prop := 1 ≤ o.i ∧ o.i ≤ 9223372036854775807 ∧ 1 ≤ o.c ∧ o.c ≤ 8 ∧ 1 ≤ o.p ∧ o.p ≤ 1000000000 ∧ 1 ≤ o.q ∧ o.q ≤ 1000000000

theorem Half.congr {side : Int} {first most : Nat} {L : List (Int × Nat)} {R R' : Nat → List Nat} {V V' : Nat → OrdR} (h : Half side first most L R V) (lt : ∀ x ∈ L, x.2 < most) (hR : ∀ r, r < most → R' (first + r) = R (first + r)) (hV : ∀ m ∈ nums first L R, V' m = V m) : Half side first most L R' V' :=
  ⟨fun x hx => by rw [hR _ (lt x hx)]; exact h.ne x hx, fun x hx n hn => by
    rw [hR _ (lt x hx)] at hn
    rw [hV n (mem_nums.2 ⟨x, hx, hn⟩)]
    exact h.pr x hx n hn, fun r hr hm => by rw [hR r hr]; exact h.em r hr hm⟩

section
variable {side sg : Int} {first most : Nat} {L : List (Int × Nat)} {R : Nat → List Nat} {V : Nat → OrdR}

theorem mem_split_snd {p : Int} {r : Nat} (hn : (L.map Prod.snd).Nodup) (hx : (p, r) ∈ L) : ∃ A C, L = A ++ (p, r) :: C ∧ (∀ x ∈ A, x.2 ≠ r) ∧ (∀ x ∈ C, x.2 ≠ r) := by
  obtain ⟨A, C, rfl⟩ := List.append_of_mem hx
  rw [List.map_append, List.map_cons] at hn
  have h2 := List.nodup_append.1 hn
  have h3 := List.nodup_cons.1 h2.2.1
  exact ⟨A, C, rfl, fun x hx e => h2.2.2 _ (List.mem_map.2 ⟨x, hx, rfl⟩) _ (by simp) e, fun x hx e => h3.1 (List.mem_map.2 ⟨x, hx, e⟩)⟩
theorem Half.price (h : Half side first most L R V) {A : List (Int × Nat)} (hA : ∀ x ∈ A, x ∈ L) {o : OrdR} (ho : o ∈ (nums first A R).map V) : ∃ x ∈ A, o.p = x.1 := by
  obtain ⟨n, hn, rfl⟩ := List.mem_map.1 ho
  obtain ⟨x, hx, hm⟩ := mem_nums.1 hn
  exact ⟨x, hx, (h.pr x (hA x hx) n hm).1⟩

/-- Behind a price that is there. -/
theorem Half.push (h : Half side first most L R V) (hs : Srt sg L) (hn : (L.map Prod.snd).Nodup) {o : OrdR} {r n : Nat} (hx : (o.p, r) ∈ L) (hside : o.s = side) (hfree : n ∉ nums first L R) :
    Half side first most L (Od.upd R (first + r) (R (first + r) ++ [n])) (Od.upd V n o) ∧ (nums first L (Od.upd R (first + r) (R (first + r) ++ [n]))).map (Od.upd V n o) = insL sg o ((nums first L R).map V) ∧
      (∀ m, m ∈ nums first L (Od.upd R (first + r) (R (first + r) ++ [n])) ↔ m = n ∨ m ∈ nums first L R) := by
  obtain ⟨A, C, hL, hA, hC⟩ := mem_split_snd hn hx
  have cA : nums first A (Od.upd R (first + r) (R (first + r) ++ [n])) = nums first A R := nums_congr fun x hx => Od.upd_other (by have := hA x hx; omega)
  have cC : nums first C (Od.upd R (first + r) (R (first + r) ++ [n])) = nums first C R := nums_congr fun x hx => Od.upd_other (by have := hC x hx; omega)
  have e0 : nums first L R = nums first A R ++ R (first + r) ++ nums first C R := by rw [hL, nums_append, nums_cons, List.append_assoc]
  have e1 : nums first L (Od.upd R (first + r) (R (first + r) ++ [n])) = nums first A R ++ R (first + r) ++ n :: nums first C R := by
    rw [hL, nums_append, nums_cons, cA, cC]
    show _ ++ (Od.upd R (first + r) _ (first + r) ++ _) = _
    rw [Od.upd_same]
    simp
  have hfree' := hfree
  rw [e0] at hfree'
  simp only [List.mem_append, not_or] at hfree'
  have srt := hs
  rw [hL] at srt
  have s2 := List.pairwise_append.1 srt
  have s3 := List.pairwise_cons.1 s2.2.1
  refine ⟨⟨fun x hx' => ?_, fun x hx' m hm => ?_, fun k hk hm => ?_⟩, ?_, fun m => ?_⟩
  · by_cases e : x.2 = r
    · rw [e, Od.upd_same]; simp
    · rw [Od.upd_other (by omega)]; exact h.ne x hx'
  · by_cases e : x.2 = r
    · rw [e, Od.upd_same, List.mem_append] at hm
      have ex : x = (o.p, r) := by
        rw [hL] at hx'
        rcases List.mem_append.1 hx' with hx' | hx'
        · exact absurd e (hA x hx')
        · rcases List.mem_cons.1 hx' with hx' | hx'
          · exact hx'
          · exact absurd e (hC x hx')
      rcases hm with hm | hm
      · have hne : m ≠ n := fun e' => hfree (e' ▸ mem_nums.2 ⟨x, hx', by rw [e]; exact hm⟩)
        rw [Od.upd_other hne]
        exact h.pr x hx' m (by rw [e]; exact hm)
      · have : m = n := by simpa using hm
        subst this
        rw [Od.upd_same, ex]
        exact ⟨rfl, hside⟩
    · rw [Od.upd_other (by omega)] at hm
      have hne : m ≠ n := fun e' => hfree (e' ▸ mem_nums.2 ⟨x, hx', hm⟩)
      rw [Od.upd_other hne]
      exact h.pr x hx' m hm
  · by_cases e : k = r
    · subst e; exact absurd (List.mem_map.2 ⟨_, hx, rfl⟩) hm
    · rw [Od.upd_other (by omega)]; exact h.em k hk hm
  · rw [e0, e1, List.map_append, List.map_cons, Od.upd_same, map_upd (by simp only [List.mem_append, not_or]; exact hfree'.1), map_upd hfree'.2, List.map_append (l₁ := nums first A R ++ R (first + r))]
    refine (insL_mid (fun y hy => ?_) (fun y hy => ?_)).symm
    · rw [List.map_append] at hy
      rcases List.mem_append.1 hy with hy | hy
      · obtain ⟨x, hx', e⟩ := h.price (A := A) (fun x hx' => by rw [hL]; simp [hx']) hy
        have := s2.2.2 x hx' (o.p, r) (by simp)
        simp only at this
        rw [e]; omega
      · obtain ⟨m, hm, rfl⟩ := List.mem_map.1 hy
        rw [(h.pr _ hx m hm).1]
        simp
    · obtain ⟨x, hx', e⟩ := h.price (A := C) (fun x hx' => by rw [hL]; simp [hx']) hy
      have := s3.1 x hx'
      simp only at this
      rw [e]; omega
  · rw [e0, e1]
    simp only [List.mem_append, List.mem_cons]
    constructor
    · rintro ((h1 | h1) | h1 | h1)
      · exact .inr (.inl (.inl h1))
      · exact .inr (.inl (.inr h1))
      · exact .inl h1
      · exact .inr (.inr h1)
    · rintro (h1 | (h1 | h1) | h1)
      · exact .inr (.inl h1)
      · exact .inl (.inl h1)
      · exact .inl (.inr h1)
      · exact .inr (.inr h1)

/-- A price that was not there. -/
theorem Half.pushNew (h : Half side first most L R V) (hs : Srt sg L) (lt : ∀ x ∈ L, x.2 < most) {o : OrdR} {r n : Nat} (hp : has o.p L = false) (hsg : sg = 1 ∨ sg = -1) (hr : r < most) (hrn : r ∉ L.map Prod.snd) (hside : o.s = side) (hfree : n ∉ nums first L R) :
    Half side first most (put sg o.p r L) (Od.upd R (first + r) (R (first + r) ++ [n])) (Od.upd V n o) ∧ (nums first (put sg o.p r L) (Od.upd R (first + r) (R (first + r) ++ [n]))).map (Od.upd V n o) = insL sg o ((nums first L R).map V) ∧
      (∀ m, m ∈ nums first (put sg o.p r L) (Od.upd R (first + r) (R (first + r) ++ [n])) ↔ m = n ∨ m ∈ nums first L R) := by
  have hr0 := h.em r hr hrn
  rw [hr0, List.nil_append]
  have nr : ∀ x ∈ L, x.2 ≠ r := fun x hx e => hrn (List.mem_map.2 ⟨x, hx, e⟩)
  have cc : ∀ X : List (Int × Nat), (∀ x ∈ X, x ∈ L) → nums first X (Od.upd R (first + r) [n]) = nums first X R := fun X hX => nums_congr fun x hx => Od.upd_other (by have := nr x (hX x hx); omega)
  have mt : ∀ x ∈ L.take (pos sg o.p L), x ∈ L := fun x hx => List.mem_of_mem_take hx
  have md : ∀ x ∈ L.drop (pos sg o.p L), x ∈ L := fun x hx => List.mem_of_mem_drop hx
  have e0 : nums first L R = nums first (L.take (pos sg o.p L)) R ++ nums first (L.drop (pos sg o.p L)) R := by rw [← nums_append, List.take_append_drop]
  have e1 : nums first (put sg o.p r L) (Od.upd R (first + r) [n]) = nums first (L.take (pos sg o.p L)) R ++ n :: nums first (L.drop (pos sg o.p L)) R := by
    unfold put
    rw [nums_append, nums_append, cc _ mt, cc _ md, nums_cons]
    show _ ++ (Od.upd R (first + r) [n] (first + r) ++ []) ++ _ = _
    rw [Od.upd_same]
    simp
  have hfree' := hfree
  rw [e0, List.mem_append, not_or] at hfree'
  refine ⟨⟨fun x hx => ?_, fun x hx m hm => ?_, fun k hk hm => ?_⟩, ?_, fun m => ?_⟩
  · rcases put_mem.1 hx with rfl | hx
    · show Od.upd R (first + r) [n] (first + r) ≠ []
      rw [Od.upd_same]; simp
    · rw [Od.upd_other (by have := nr x hx; omega)]; exact h.ne x hx
  · rcases put_mem.1 hx with rfl | hx
    · have hm : m ∈ Od.upd R (first + r) [n] (first + r) := hm
      rw [Od.upd_same] at hm
      have : m = n := by simpa using hm
      subst this
      rw [Od.upd_same]
      exact ⟨rfl, hside⟩
    · rw [Od.upd_other (by have := nr x hx; omega)] at hm
      have hne : m ≠ n := fun e' => hfree (e' ▸ mem_nums.2 ⟨x, hx, hm⟩)
      rw [Od.upd_other hne]
      exact h.pr x hx m hm
  · have hkr : k ≠ r := fun e => hm (List.mem_map.2 ⟨(o.p, r), put_mem.2 (.inl rfl), e.symm⟩)
    rw [Od.upd_other (by omega)]
    exact h.em k hk fun h' => by
      obtain ⟨x, hx, e⟩ := List.mem_map.1 h'
      exact hm (List.mem_map.2 ⟨x, put_mem.2 (.inr hx), e⟩)
  · rw [e0, e1, List.map_append, List.map_cons, Od.upd_same, map_upd hfree'.1, map_upd hfree'.2, List.map_append]
    refine (insL_mid (fun y hy => ?_) (fun y hy => ?_)).symm
    · obtain ⟨x, hx, e⟩ := h.price mt hy
      have := take_pos hs hx
      rw [e]; omega
    · obtain ⟨x, hx, e⟩ := h.price md hy
      have h1 := drop_pos hs hx
      have hne : x.1 ≠ o.p := fun e' => by
        have : has o.p L = true := has_iff.2 ⟨x, md x hx, e'⟩
        rw [hp] at this; cases this
      have : sg * x.1 ≠ sg * o.p := fun e' => hne (sg_inj hsg e')
      rw [e]; omega
  · rw [e0, e1]
    simp only [List.mem_append, List.mem_cons]
    constructor
    · rintro (h1 | h1 | h1)
      · exact .inr (.inl h1)
      · exact .inl h1
      · exact .inr (.inr h1)
    · rintro (h1 | h1 | h1)
      · exact .inr (.inl h1)
      · exact .inl h1
      · exact .inr (.inr h1)
end
end Go.Proofs.Ytkglplngnjgnhaa
