/- The book, the plain side: what takes an order out, what makes it less; the whole book's relation. No condition. -/
import Derived.Test.YtkglplngnjgnhaaBkP
namespace Go.Proofs.Ytkglplngnjgnhaa
set_option linter.unusedVariables false
set_option linter.unusedSimpArgs false
open Go.RowKit
open Od (OrdR Lay FreeN Blk4)

section
variable {side sg : Int} {first most : Nat} {L : List (Int × Nat)} {R : Nat → List Nat} {V : Nat → OrdR}
theorem split_at {α : Type} {L : List α} {k : Nat} {x : α} (hx : L[k]? = some x) : L = L.take k ++ x :: L.drop (k + 1) := by
  have hk := (List.getElem?_eq_some_iff.1 hx).1
  have h1 := List.take_append_drop k L
  rw [List.drop_eq_getElem_cons hk, (List.getElem?_eq_some_iff.1 hx).2] at h1
  exact h1.symm

/-- One is taken out, its price stays. -/
theorem Half.take (h : Half side first most L R V) (hn : (L.map Prod.snd).Nodup) {p : Int} {r n : Nat} {l1 l2 : List Nat} {z : OrdR} (hx : (p, r) ∈ L) (hR : R (first + r) = l1 ++ n :: l2) (hl : l1 ++ l2 ≠ []) (hnd : (nums first L R).Nodup) :
    Half side first most L (Od.upd R (first + r) (l1 ++ l2)) (Od.upd V n z) ∧ ∃ A C, nums first L R = A ++ n :: C ∧ nums first L (Od.upd R (first + r) (l1 ++ l2)) = A ++ C := by
  obtain ⟨A, C, hL, hA, hC⟩ := mem_split_snd hn hx
  have cA : nums first A (Od.upd R (first + r) (l1 ++ l2)) = nums first A R := nums_congr fun x hx => Od.upd_other (by have := hA x hx; omega)
  have cC : nums first C (Od.upd R (first + r) (l1 ++ l2)) = nums first C R := nums_congr fun x hx => Od.upd_other (by have := hC x hx; omega)
  have e0 : nums first L R = (nums first A R ++ l1) ++ n :: (l2 ++ nums first C R) := by rw [hL, nums_append, nums_cons, hR]; simp
  have e1 : nums first L (Od.upd R (first + r) (l1 ++ l2)) = (nums first A R ++ l1) ++ (l2 ++ nums first C R) := by
    rw [hL, nums_append, nums_cons, cA, cC]
    show _ ++ (Od.upd R (first + r) _ (first + r) ++ _) = _
    rw [Od.upd_same]; simp
  refine ⟨⟨fun x hx' => ?_, fun x hx' m hm => ?_, fun k hk hm => ?_⟩, _, _, e0, e1⟩
  · by_cases e : x.2 = r
    · rw [e, Od.upd_same]; exact hl
    · rw [Od.upd_other (by omega)]; exact h.ne x hx'
  · have hm2 : m ∈ R (first + x.2) := by
      by_cases e : x.2 = r
      · rw [e, Od.upd_same] at hm
        rw [e, hR]
        simp only [List.mem_append, List.mem_cons] at hm ⊢
        rcases hm with h1 | h1
        · exact .inl h1
        · exact .inr (.inr h1)
      · rwa [Od.upd_other (by omega)] at hm
    have hne : m ≠ n := by
      rintro rfl
      have hm3 : m ∈ nums first L (Od.upd R (first + r) (l1 ++ l2)) := mem_nums.2 ⟨x, hx', hm⟩
      rw [e1] at hm3
      rw [e0] at hnd
      have h2 := List.nodup_append.1 hnd
      have h3 := List.nodup_cons.1 h2.2.1
      rcases List.mem_append.1 hm3 with h4 | h4
      · exact h2.2.2 _ h4 _ (by simp) rfl
      · exact h3.1 h4
    rw [Od.upd_other hne]
    exact h.pr x hx' m hm2
  · by_cases e : k = r
    · subst e; exact absurd (List.mem_map.2 ⟨_, hx, rfl⟩) hm
    · rw [Od.upd_other (by omega)]; exact h.em k hk hm

/-- The last one of its price is taken out. -/
theorem Half.cut (h : Half side first most L R V) (hn : (L.map Prod.snd).Nodup) {p : Int} {k r n : Nat} {z : OrdR} (hx : L[k]? = some (p, r)) (hR : R (first + r) = [n]) (hnd : (nums first L R).Nodup) :
    Half side first most (cutAt k L) (Od.upd R (first + r) []) (Od.upd V n z) ∧ ∃ A C, nums first L R = A ++ n :: C ∧ nums first (cutAt k L) (Od.upd R (first + r) []) = A ++ C := by
  have hL := split_at hx
  have hn' := hn
  rw [hL, List.map_append, List.map_cons] at hn'
  have h2 := List.nodup_append.1 hn'
  have h3 := List.nodup_cons.1 h2.2.1
  have hA : ∀ x ∈ L.take k, x.2 ≠ r := fun x hx e => h2.2.2 _ (List.mem_map.2 ⟨x, hx, rfl⟩) _ (by simp) e
  have hC : ∀ x ∈ L.drop (k + 1), x.2 ≠ r := fun x hx e => h3.1 (List.mem_map.2 ⟨x, hx, e⟩)
  have cA : nums first (L.take k) (Od.upd R (first + r) []) = nums first (L.take k) R := nums_congr fun x hx => Od.upd_other (by have := hA x hx; omega)
  have cC : nums first (L.drop (k + 1)) (Od.upd R (first + r) []) = nums first (L.drop (k + 1)) R := nums_congr fun x hx => Od.upd_other (by have := hC x hx; omega)
  have e0 : nums first L R = nums first (L.take k) R ++ n :: nums first (L.drop (k + 1)) R := by
    conv => lhs; rw [hL]
    rw [nums_append, nums_cons, hR]; rfl
  have e1 : nums first (cutAt k L) (Od.upd R (first + r) []) = nums first (L.take k) R ++ nums first (L.drop (k + 1)) R := by
    unfold cutAt
    rw [nums_append, cA, cC]
  have sub : ∀ x ∈ cutAt k L, x ∈ L ∧ x.2 ≠ r := fun x hx => by
    unfold cutAt at hx
    rcases List.mem_append.1 hx with h4 | h4
    · exact ⟨List.mem_of_mem_take h4, hA x h4⟩
    · exact ⟨List.mem_of_mem_drop h4, hC x h4⟩
  refine ⟨⟨fun x hx' => ?_, fun x hx' m hm => ?_, fun j hj hm => ?_⟩, _, _, e0, e1⟩
  · obtain ⟨h4, h5⟩ := sub x hx'
    rw [Od.upd_other (by omega)]; exact h.ne x h4
  · obtain ⟨h4, h5⟩ := sub x hx'
    have hm1 := hm
    rw [Od.upd_other (by omega)] at hm
    have hne : m ≠ n := by
      rintro rfl
      have hm3 : m ∈ nums first (cutAt k L) (Od.upd R (first + r) []) := mem_nums.2 ⟨x, hx', hm1⟩
      rw [e1] at hm3
      rw [e0] at hnd
      have h2 := List.nodup_append.1 hnd
      have h3 := List.nodup_cons.1 h2.2.1
      rcases List.mem_append.1 hm3 with h4 | h4
      · exact h2.2.2 _ h4 _ (by simp) rfl
      · exact h3.1 h4
    rw [Od.upd_other hne]
    exact h.pr x h4 m hm
  · by_cases e : j = r
    · subst e; rw [Od.upd_same]
    · rw [Od.upd_other (by omega)]
      refine h.em j hj fun h' => ?_
      obtain ⟨x, hx', e'⟩ := List.mem_map.1 h'
      rw [hL] at hx'
      rcases List.mem_append.1 hx' with h4 | h4
      · exact hm (List.mem_map.2 ⟨x, by unfold cutAt; simp [h4], e'⟩)
      · rcases List.mem_cons.1 h4 with h4 | h4
        · subst h4; exact e e'.symm
        · exact hm (List.mem_map.2 ⟨x, by unfold cutAt; simp [h4], e'⟩)

/-- One is written anew, at its price and side. -/
theorem Half.set (h : Half side first most L R V) {n : Nat} {o : OrdR} (hp : o.p = (V n).p) (hs : o.s = (V n).s) : Half side first most L R (Od.upd V n o) :=
  ⟨h.ne, fun x hx m hm => by
    by_cases e : m = n
    · subst e; rw [Od.upd_same, hp, hs]; exact h.pr x hx m hm
    · rw [Od.upd_other e]; exact h.pr x hx m hm, h.em⟩
end

/-- The book: prices with rows of numbers (L, R, V), numbers of orders (F), and the orders that they stand for (l). -/
structure BkRep (most room : Nat) (L : Bool → List (Int × Nat)) (R : Nat → List Nat) (V : Nat → OrdR) (F : Int → Option Int) (l : Bool → List OrdR) : Prop where
  e : ∀ q, l q = (nums (fst most q) (L q) R).map V
  half : ∀ q, Half (sdN q) (fst most q) most (L q) R V
  h3 : R (2 * most) = []
  ids : ((l false ++ l true).map OrdR.i).Nodup
  fi : ∀ id, Wf id → ∀ v, F id = some v ↔ ∃ m : Nat, v = m ∧ (∃ q, m ∈ nums (fst most q) (L q) R) ∧ (V m).i = id
  ok : ∀ q, ∀ o ∈ l q, Okd o
  len : (l false).length + (l true).length ≤ room
  lt : ∀ q, ∀ x ∈ L q, x.2 < most

theorem Okd.wf {o : OrdR} (h : Okd o) : Wf o.i := wf_of (by have := h.1; omega) h.2.1

section
variable {most room : Nat} {L : Bool → List (Int × Nat)} {R : Nat → List Nat} {V : Nat → OrdR} {F : Int → Option Int} {l : Bool → List OrdR}

theorem nodup_of_map {α β : Type} {f : α → β} {l : List α} (h : (l.map f).Nodup) : l.Nodup := List.Pairwise.of_map f (fun a b hne e => hne (congrArg f e)) h
theorem BkRep.ids1 (h : BkRep most room L R V F l) (q : Bool) : ((l q).map OrdR.i).Nodup := by
  have h1 := h.ids
  rw [List.map_append] at h1
  have h2 := List.nodup_append.1 h1
  cases q
  · exact h2.1
  · exact h2.2.1
theorem BkRep.idsNe (h : BkRep most room L R V F l) {q k : Bool} (hq : k ≠ q) {o p : OrdR} (ho : o ∈ l q) (hp : p ∈ l k) : o.i ≠ p.i := by
  have h1 := h.ids
  rw [List.map_append] at h1
  have h2 := (List.nodup_append.1 h1).2.2
  cases q <;> cases k <;> simp at hq
  · exact h2 _ (List.mem_map.2 ⟨o, ho, rfl⟩) _ (List.mem_map.2 ⟨p, hp, rfl⟩)
  · exact fun e => h2 _ (List.mem_map.2 ⟨p, hp, rfl⟩) _ (List.mem_map.2 ⟨o, ho, rfl⟩) e.symm
theorem BkRep.nd (h : BkRep most room L R V F l) (q : Bool) : (nums (fst most q) (L q) R).Nodup := by
  have h1 := h.ids1 q
  rw [h.e q] at h1
  exact nodup_of_map (nodup_of_map h1)
theorem BkRep.mem (h : BkRep most room L R V F l) {q : Bool} {n : Nat} (hn : n ∈ nums (fst most q) (L q) R) : V n ∈ l q := by
  rw [h.e q]; exact List.mem_map.2 ⟨n, hn, rfl⟩
theorem BkRep.side (h : BkRep most room L R V F l) {q : Bool} {n : Nat} (hn : n ∈ nums (fst most q) (L q) R) : (V n).s = sdN q := by
  obtain ⟨x, hx, hm⟩ := mem_nums.1 hn
  exact ((h.half q).pr x hx n hm).2
theorem BkRep.sides (h : BkRep most room L R V F l) {q : Bool} {o : OrdR} (ho : o ∈ l q) : o.s = sdN q := by
  rw [h.e q] at ho
  obtain ⟨n, hn, rfl⟩ := List.mem_map.1 ho
  exact h.side hn
/-- Two numbers of orders with the same id are one. -/
theorem BkRep.inj (h : BkRep most room L R V F l) {q k : Bool} {n m : Nat} (hn : n ∈ nums (fst most q) (L q) R) (hm : m ∈ nums (fst most k) (L k) R) (e : (V n).i = (V m).i) : n = m ∧ q = k := by
  by_cases hq : k = q
  · subst hq
    refine ⟨?_, rfl⟩
    have h1 := h.ids1 k
    rw [h.e k, List.map_map] at h1
    obtain ⟨i, hi⟩ := List.mem_iff_getElem?.1 hn
    obtain ⟨j, hj⟩ := List.mem_iff_getElem?.1 hm
    have hi' := (List.getElem?_eq_some_iff.1 hi)
    have hj' := (List.getElem?_eq_some_iff.1 hj)
    obtain ⟨i1, i2⟩ := hi'
    obtain ⟨j1, j2⟩ := hj'
    have key := List.pairwise_iff_getElem.1 h1
    rcases Nat.lt_trichotomy i j with hlt | rfl | hgt
    · have := key i j (by simpa using i1) (by simpa using j1) hlt
      simp only [List.getElem_map, i2, j2, Function.comp] at this
      exact absurd e this
    · rw [← i2, ← j2]
    · have := key j i (by simpa using j1) (by simpa using i1) hgt
      simp only [List.getElem_map, i2, j2, Function.comp] at this
      exact absurd e.symm this
  · exact absurd e (h.idsNe hq (h.mem hn) (h.mem hm))

/-- What is known of a number that the map tells. -/
theorem BkRep.found (h : BkRep most room L R V F l) {id v : Int} (hw : Wf id) (hf : F id = some v) : ∃ (m : Nat) (q : Bool), v = m ∧ m ∈ nums (fst most q) (L q) R ∧ (V m).i = id ∧ V m ∈ l q := by
  obtain ⟨m, h1, ⟨q, h2⟩, h3⟩ := (h.fi id hw v).1 hf
  exact ⟨m, q, h1, h2, h3, h.mem h2⟩
theorem BkRep.missed (h : BkRep most room L R V F l) {id : Int} (hw : Wf id) (hf : F id = none) (q : Bool) : ∀ o ∈ l q, o.i ≠ id := by
  intro o ho e
  rw [h.e q] at ho
  obtain ⟨m, hm, rfl⟩ := List.mem_map.1 ho
  have := (h.fi id hw m).2 ⟨m, rfl, ⟨q, hm⟩, e⟩
  rw [hf] at this; cases this

/-- A row's number is an order's. -/
theorem BkRep.rows (h : BkRep most room L R V F l) {r n : Nat} (hr : r < 2 * most + 1) (hn : n ∈ R r) : ∃ q, n ∈ nums (fst most q) (L q) R := by
  have key : ∀ q r', r' < most → n ∈ R (fst most q + r') → n ∈ nums (fst most q) (L q) R := fun q r' hr' hm => by
    by_cases e : r' ∈ (L q).map Prod.snd
    · obtain ⟨x, hx, rfl⟩ := List.mem_map.1 e
      exact mem_nums.2 ⟨x, hx, hm⟩
    · rw [(h.half q).em r' hr' e] at hm; cases hm
  by_cases h1 : r < most
  · exact ⟨false, key false r h1 (by simpa [fst] using hn)⟩
  · by_cases h2 : r = 2 * most
    · subst h2; rw [h.h3] at hn; cases hn
    · exact ⟨true, key true (r - most) (by omega) (by rw [show fst most true + (r - most) = r by simp [fst]; omega]; exact hn)⟩

theorem least_of {P : Nat → Prop} : ∀ n, P n → ∃ m, P m ∧ m ≤ n ∧ ∀ k, P k → m ≤ k := by
  intro n
  induction n using Nat.strongRecOn with
  | ind n ih =>
    intro hn
    rcases Classical.em (∃ k, k < n ∧ P k) with ⟨k, hk, hp⟩ | h1
    · obtain ⟨m, h2, h3, h4⟩ := ih k hk hp
      exact ⟨m, h2, by omega, h4⟩
    · exact ⟨n, hn, Nat.le_refl _, fun k hk => by
        rcases Nat.lt_or_ge k n with h2 | h2
        · exact absurd ⟨k, h2, hk⟩ h1
        · exact h2⟩
/-- Where there is room, a number is free. -/
theorem BkRep.free (h : BkRep most room L R V F l) (hroom : (l false).length + (l true).length < room) :
    ∃ n, FreeN (2 * most + 1) room R n ∧ (∀ m, FreeN (2 * most + 1) room R m → n ≤ m) ∧ ∀ q, n ∉ nums (fst most q) (L q) R := by
  have e1 : ∃ n, n < room ∧ n ∉ nums (fst most false) (L false) R ++ nums (fst most true) (L true) R := by
    rcases Classical.em (∃ n, n < room ∧ n ∉ nums (fst most false) (L false) R ++ nums (fst most true) (L true) R) with h1 | h1
    · exact h1
    · have := Go.Proofs.Ytkglplngnjgnhaa.nodup_len (List.range room) (nums (fst most false) (L false) R ++ nums (fst most true) (L true) R) List.nodup_range (fun x hx => by
        rcases Classical.em (x ∈ nums (fst most false) (L false) R ++ nums (fst most true) (L true) R) with h2 | h2
        · exact h2
        · exact absurd ⟨x, by simpa using hx, h2⟩ h1)
      have e1 := congrArg List.length (h.e false)
      have e2 := congrArg List.length (h.e true)
      simp only [List.length_map, List.length_append, List.length_range] at *
      omega
  obtain ⟨n0, h1, h2⟩ := e1
  have f0 : FreeN (2 * most + 1) room R n0 := ⟨h1, fun r hr hm => by
    obtain ⟨q, hq⟩ := h.rows hr hm
    exact h2 (List.mem_append.2 (by cases q; exact .inl hq; exact .inr hq))⟩
  obtain ⟨n, h3, _, h4⟩ := least_of (P := FreeN (2 * most + 1) room R) n0 f0
  exact ⟨n, h3, h4, fun q hq => by
    obtain ⟨x, hx, hm⟩ := mem_nums.1 hq
    exact h3.2 _ (by have := fst_le most q; have := h.lt q x hx; omega) hm⟩

theorem insL_mem {sg : Int} {o x : OrdR} {l : List OrdR} : x ∈ insL sg o l ↔ x = o ∨ x ∈ l := by rw [(insL_perm sg o l).mem_iff, List.mem_cons]

theorem BkRep.insert (h : BkRep most room L R V F l) {q : Bool} {o : OrdR} {n : Nat} {L' : List (Int × Nat)} {R' : Nat → List Nat} (hH : Half (sdN q) (fst most q) most L' R' (Od.upd V n o))
    (hmap : (nums (fst most q) L' R').map (Od.upd V n o) = insL (sgn q) o (l q)) (hmem : ∀ m, m ∈ nums (fst most q) L' R' ↔ m = n ∨ m ∈ nums (fst most q) (L q) R) (hlt : ∀ x ∈ L', x.2 < most)
    (hoth : ∀ k, k ≠ q → ∀ r, r < most → R' (fst most k + r) = R (fst most k + r)) (h3 : R' (2 * most) = []) (hn : ∀ k, n ∉ nums (fst most k) (L k) R) (ok : Okd o) (tw : F o.i = none) (hroom : (l false).length + (l true).length < room) :
    BkRep most room (setS L q L') R' (Od.upd V n o) (fput F o.i n) (setS l q (insL (sgn q) o (l q))) := by
  have same : ∀ k, k ≠ q → nums (fst most k) (L k) R' = nums (fst most k) (L k) R := fun k hk => nums_congr fun x hx => hoth k hk _ (h.lt k x hx)
  have mem : ∀ m, (∃ k, m ∈ nums (fst most k) (setS L q L' k) R') ↔ m = n ∨ ∃ k, m ∈ nums (fst most k) (L k) R := by
    intro m
    constructor
    · rintro ⟨k, hk⟩
      by_cases e : k = q
      · subst e
        rw [setS_same] at hk
        rcases (hmem m).1 hk with h1 | h1
        · exact .inl h1
        · exact .inr ⟨k, h1⟩
      · rw [setS_other e, same k e] at hk; exact .inr ⟨k, hk⟩
    · rintro (h1 | ⟨k, h1⟩)
      · exact ⟨q, by rw [setS_same]; exact (hmem m).2 (.inl h1)⟩
      · by_cases e : k = q
        · subst e; exact ⟨k, by rw [setS_same]; exact (hmem m).2 (.inr h1)⟩
        · exact ⟨k, by rw [setS_other e, same k e]; exact h1⟩
  have missed := fun k => h.missed ok.wf tw k
  refine ⟨fun k => ?_, fun k => ?_, h3, ?_, fun id hw v => ?_, fun k x hx => ?_, ?_, fun k x hx => ?_⟩
  · by_cases e : k = q
    · subst e; rw [setS_same, setS_same, hmap]
    · rw [setS_other e, setS_other e, same k e, map_upd (hn k)]; exact h.e k
  · by_cases e : k = q
    · subst e; rw [setS_same]; exact hH
    · rw [setS_other e]
      exact (h.half k).congr (h.lt k) (hoth k e) (fun m hm => Od.upd_other (fun e' => hn k (e' ▸ hm)))
  · have hp : ((setS l q (insL (sgn q) o (l q)) false) ++ (setS l q (insL (sgn q) o (l q)) true)).Perm (o :: (l false ++ l true)) := by
      cases q
      · rw [setS_same, setS_other (by decide)]
        exact (insL_perm _ o (l false)).append_right _
      · rw [setS_same, setS_other (by decide)]
        exact ((insL_perm _ o (l true)).append_left _).trans List.perm_middle
    refine ((hp.map OrdR.i).nodup_iff).2 ?_
    rw [List.map_cons, List.nodup_cons]
    refine ⟨fun hm => ?_, h.ids⟩
    obtain ⟨x, hx, e⟩ := List.mem_map.1 hm
    rcases List.mem_append.1 hx with h1 | h1
    · exact missed false x h1 e
    · exact missed true x h1 e
  · unfold fput
    by_cases e : id = o.i
    · subst e
      rw [if_pos rfl]
      constructor
      · intro h1
        cases h1
        exact ⟨n, rfl, (mem n).2 (.inl rfl), by rw [Od.upd_same]⟩
      · rintro ⟨m, rfl, h1, h2⟩
        rcases (mem m).1 h1 with rfl | ⟨k, h3⟩
        · rfl
        · rw [Od.upd_other (show m ≠ n from fun e => hn k (e ▸ h3))] at h2
          exact absurd h2 (missed k _ (h.mem h3))
    · rw [if_neg e, h.fi id hw v]
      constructor
      · rintro ⟨m, rfl, ⟨k, h1⟩, h2⟩
        exact ⟨m, rfl, (mem m).2 (.inr ⟨k, h1⟩), by rw [Od.upd_other (show m ≠ n from fun e => hn k (e ▸ h1))]; exact h2⟩
      · rintro ⟨m, rfl, h1, h2⟩
        rcases (mem m).1 h1 with rfl | ⟨k, h3⟩
        · rw [Od.upd_same] at h2; exact absurd h2.symm e
        · rw [Od.upd_other (show m ≠ n from fun e => hn k (e ▸ h3))] at h2
          exact ⟨m, rfl, ⟨k, h3⟩, h2⟩
  · by_cases e : k = q
    · subst e
      rw [setS_same] at hx
      rcases insL_mem.1 hx with rfl | hx
      · exact ok
      · exact h.ok k x hx
    · rw [setS_other e] at hx; exact h.ok k x hx
  · have h1 := (insL_perm (sgn q) o (l q)).length_eq
    rw [List.length_cons] at h1
    cases q
    · rw [setS_same, setS_other (by decide)]; omega
    · rw [setS_same, setS_other (by decide)]; omega
  · by_cases e : k = q
    · subst e; rw [setS_same] at hx; exact hlt x hx
    · rw [setS_other e] at hx; exact h.lt k x hx

theorem delL_sub (id : Int) (l : List OrdR) : (delL id l).Sublist l := List.filter_sublist

theorem BkRep.remove (h : BkRep most room L R V F l) {q : Bool} {n : Nat} {z : OrdR} {L' : List (Int × Nat)} {R' : Nat → List Nat} {A C : List Nat} (hH : Half (sdN q) (fst most q) most L' R' (Od.upd V n z))
    (e0 : nums (fst most q) (L q) R = A ++ n :: C) (e1 : nums (fst most q) L' R' = A ++ C) (hlt : ∀ x ∈ L', x.2 < most)
    (hoth : ∀ k, k ≠ q → ∀ r, r < most → R' (fst most k + r) = R (fst most k + r)) (h3 : R' (2 * most) = []) :
    BkRep most room (setS L q L') R' (Od.upd V n z) (fdel F (V n).i) (setS l q (delL (V n).i (l q))) := by
  have hin : n ∈ nums (fst most q) (L q) R := by rw [e0]; simp
  have hnd := h.nd q
  rw [e0] at hnd
  have d2 := List.nodup_append.1 hnd
  have d3 := List.nodup_cons.1 d2.2.1
  have nA : n ∉ A := fun hm => d2.2.2 _ hm _ (by simp) rfl
  have same : ∀ k, k ≠ q → nums (fst most k) (L k) R' = nums (fst most k) (L k) R := fun k hk => nums_congr fun x hx => hoth k hk _ (h.lt k x hx)
  have nk : ∀ k, k ≠ q → n ∉ nums (fst most k) (L k) R := fun k hk hm => hk (h.inj hm hin rfl).2
  have mem : ∀ m, (∃ k, m ∈ nums (fst most k) (setS L q L' k) R') ↔ m ≠ n ∧ ∃ k, m ∈ nums (fst most k) (L k) R := by
    intro m
    constructor
    · rintro ⟨k, hk⟩
      by_cases e : k = q
      · subst e
        rw [setS_same, e1] at hk
        refine ⟨?_, k, ?_⟩
        · rintro rfl
          rcases List.mem_append.1 hk with h1 | h1
          · exact nA h1
          · exact d3.1 h1
        · rw [e0]
          rcases List.mem_append.1 hk with h1 | h1
          · simp [h1]
          · simp [h1]
      · rw [setS_other e, same k e] at hk
        exact ⟨fun e' => nk k e (e' ▸ hk), k, hk⟩
    · rintro ⟨hne, k, hk⟩
      by_cases e : k = q
      · subst e
        refine ⟨k, ?_⟩
        rw [setS_same, e1]
        rw [e0] at hk
        simp only [List.mem_append, List.mem_cons] at hk ⊢
        rcases hk with h1 | h1 | h1
        · exact .inl h1
        · exact absurd h1 hne
        · exact .inr h1
      · exact ⟨k, by rw [setS_other e, same k e]; exact hk⟩
  have hids := h.ids1 q
  have hl : delL (V n).i (l q) = (A ++ C).map V := by rw [h.e q, e0]; rw [h.e q, e0] at hids; exact delL_mid hids
  have hsub := delL_sub (V n).i (l q)
  refine ⟨fun k => ?_, fun k => ?_, h3, ?_, fun id hw v => ?_, fun k x hx => ?_, ?_, fun k x hx => ?_⟩
  · by_cases e : k = q
    · subst e
      rw [setS_same, setS_same, e1, hl, map_upd (by rw [List.mem_append]; exact fun h => h.elim nA d3.1)]
    · rw [setS_other e, setS_other e, same k e, map_upd (nk k e)]; exact h.e k
  · by_cases e : k = q
    · subst e; rw [setS_same]; exact hH
    · rw [setS_other e]
      exact (h.half k).congr (h.lt k) (hoth k e) (fun m hm => Od.upd_other (fun e' => nk k e (e' ▸ hm)))
  · have hs : ((setS l q (delL (V n).i (l q)) false) ++ (setS l q (delL (V n).i (l q)) true)).Sublist (l false ++ l true) := by
      cases q
      · rw [setS_same, setS_other (by decide)]; exact hsub.append (List.Sublist.refl _)
      · rw [setS_same, setS_other (by decide)]; exact (List.Sublist.refl _).append hsub
    exact List.Nodup.sublist (hs.map OrdR.i) h.ids
  · unfold fdel
    by_cases e : id = (V n).i
    · subst e
      rw [if_pos rfl]
      constructor
      · intro h1; cases h1
      · rintro ⟨m, rfl, h1, h2⟩
        obtain ⟨h4, k, h5⟩ := (mem m).1 h1
        rw [Od.upd_other h4] at h2
        exact absurd (h.inj h5 hin h2).1 h4
    · rw [if_neg e, h.fi id hw v]
      constructor
      · rintro ⟨m, rfl, ⟨k, h1⟩, h2⟩
        have hne : m ≠ n := fun e' => e (by rw [← h2, e'])
        exact ⟨m, rfl, (mem m).2 ⟨hne, k, h1⟩, by rw [Od.upd_other hne]; exact h2⟩
      · rintro ⟨m, rfl, h1, h2⟩
        obtain ⟨h4, k, h5⟩ := (mem m).1 h1
        rw [Od.upd_other h4] at h2
        exact ⟨m, rfl, ⟨k, h5⟩, h2⟩
  · by_cases e : k = q
    · subst e; rw [setS_same] at hx; exact h.ok k x (hsub.subset hx)
    · rw [setS_other e] at hx; exact h.ok k x hx
  · have := h.len
    have h1 := hsub.length_le
    cases q
    · rw [setS_same, setS_other (by decide)]; omega
    · rw [setS_same, setS_other (by decide)]; omega
  · by_cases e : k = q
    · subst e; rw [setS_same] at hx; exact hlt x hx
    · rw [setS_other e] at hx; exact h.lt k x hx

theorem setL_ids {id : Int} {o : OrdR} {l : List OrdR} (h : o.i = id) : (setL id o l).map OrdR.i = l.map OrdR.i := by
  unfold setL
  rw [List.map_map]
  refine List.map_congr_left fun x _ => ?_
  simp only [Function.comp]
  split
  · rename_i e; rw [h, e]
  · rfl

theorem BkRep.reduce (h : BkRep most room L R V F l) {q : Bool} {n : Nat} {o : OrdR} (hin : n ∈ nums (fst most q) (L q) R) (hi : o.i = (V n).i) (hp : o.p = (V n).p) (hs : o.s = (V n).s) (ok : Okd o) :
    BkRep most room L R (Od.upd V n o) F (setS l q (setL (V n).i o (l q))) := by
  have nk : ∀ k, k ≠ q → n ∉ nums (fst most k) (L k) R := fun k hk hm => hk (h.inj hm hin rfl).2
  have ei : ∀ m, (Od.upd V n o m).i = (V m).i := fun m => by
    by_cases e : m = n
    · subst e; rw [Od.upd_same, hi]
    · rw [Od.upd_other e]
  refine ⟨fun k => ?_, fun k => (h.half k).set hp hs, h.h3, ?_, fun id hw v => ?_, fun k x hx => ?_, ?_, h.lt⟩
  · by_cases e : k = q
    · subst e
      obtain ⟨A, C, e0⟩ := List.append_of_mem hin
      have hnd := h.nd k
      have hids := h.ids1 k
      rw [h.e k, e0] at hids
      rw [e0] at hnd
      have d2 := List.nodup_append.1 hnd
      have d3 := List.nodup_cons.1 d2.2.1
      rw [setS_same, h.e k, e0]
      exact setL_mid hids (fun hm => d2.2.2 _ hm _ (by simp) rfl) d3.1
    · rw [setS_other e, map_upd (nk k e)]; exact h.e k
  · have : ((setS l q (setL (V n).i o (l q)) false) ++ (setS l q (setL (V n).i o (l q)) true)).map OrdR.i = (l false ++ l true).map OrdR.i := by
      cases q
      · rw [setS_same, setS_other (by decide), List.map_append, List.map_append, setL_ids hi]
      · rw [setS_same, setS_other (by decide), List.map_append, List.map_append, setL_ids hi]
    rw [this]; exact h.ids
  · rw [h.fi id hw v]
    simp only [ei]
  · by_cases e : k = q
    · subst e
      rw [setS_same] at hx
      obtain ⟨y, hy, rfl⟩ := List.mem_map.1 hx
      split
      · exact ok
      · exact h.ok k y hy
    · rw [setS_other e] at hx; exact h.ok k x hx
  · have := h.len
    cases q
    · rw [setS_same, setS_other (by decide)]; unfold setL; rw [List.length_map]; exact this
    · rw [setS_same, setS_other (by decide)]; unfold setL; rw [List.length_map]; exact this

/-- An empty book. -/
theorem BkRep.init (most room : Nat) (V : Nat → OrdR) : BkRep most room (fun _ => []) (fun _ => []) V (fun _ => none) (fun _ => []) :=
  { e := fun _ => rfl
    half := fun _ => { ne := (fun x hx => by cases hx), pr := (fun x hx => by cases hx), em := fun _ _ _ => rfl }
    h3 := rfl
    ids := List.nodup_nil
    fi := fun id _ v => Iff.intro (fun h => by cases h) (fun ⟨m, _, ⟨_, h⟩, _⟩ => by cases h)
    ok := (fun _ o ho => by cases ho)
    len := Nat.zero_le _
    lt := (fun _ x hx => by cases hx) }
end
end Go.Proofs.Ytkglplngnjgnhaa
