/- BookOrder: plain laws: numbers that rise, levels that are used up, a first part up to a limit, clients. Conditions: a book's orders. -/
import Derived.Test.YtilngakgofjmpaaR6g
namespace Go.Proofs.Ytilngakgofjmpaa
set_option linter.unusedVariables false
set_option linter.unusedSimpArgs false
open Go.RowKit Go.Shelf
open Od (OrdR)

/-! ### Numbers rise -/
theorem nodup_inj : ∀ {L : List OrdR}, (L.map OrdR.i).Nodup → ∀ {a b : OrdR}, a ∈ L → b ∈ L → a.i = b.i → a = b
  | [], _, _, _, h, _, _ => by cases h
  | x :: t, hn, a, b, ha, hb, e => by
    have h2 := List.nodup_cons.1 (show (x.i :: t.map OrdR.i).Nodup from hn)
    rcases List.mem_cons.1 ha with ha' | ha'
    · rcases List.mem_cons.1 hb with hb' | hb'
      · rw [ha', hb']
      · subst ha'; exact (h2.1 (List.mem_map.2 ⟨b, hb', e.symm⟩)).elim
    · rcases List.mem_cons.1 hb with hb' | hb'
      · subst hb'; exact (h2.1 (List.mem_map.2 ⟨a, ha', e⟩)).elim
      · exact nodup_inj h2.2 ha' hb' e
structure Rise (l : Bool → List OrdR) (k : Int) : Prop where
  asc : ∀ q, (l q).Pairwise fun x y => x.p = y.p → x.i < y.i
  le : ∀ q, ∀ o ∈ l q, o.i ≤ k
theorem Rise.start (k : Int) : Rise (fun _ => []) k := ⟨fun _ => List.Pairwise.nil, fun _ o h => by cases h⟩
theorem Rise.more {l : Bool → List OrdR} {k k' : Int} (h : Rise l k) (hk : k ≤ k') : Rise l k' := ⟨h.asc, fun q o ho => by have := h.le q o ho; omega⟩
theorem insL_rise {sg : Int} {o : OrdR} : ∀ {L : List OrdR}, L.Pairwise (fun x y => sg * x.p ≤ sg * y.p) → (∀ x ∈ L, x.i < o.i) → L.Pairwise (fun x y => x.p = y.p → x.i < y.i) → (insL sg o L).Pairwise fun x y => x.p = y.p → x.i < y.i
  | [], _, _, _ => List.pairwise_singleton _ _
  | x :: t, hs, hi, ha => by
    have hs2 := List.pairwise_cons.1 hs
    have ha2 := List.pairwise_cons.1 ha
    unfold insL
    split
    · refine List.pairwise_cons.2 ⟨fun y hy => ?_, insL_rise hs2.2 (fun y hy => hi y (by simp [hy])) ha2.2⟩
      rcases insL_mem.1 hy with rfl | hy
      · exact fun _ => hi x (by simp)
      · exact ha2.1 y hy
    · rename_i hn
      refine List.pairwise_cons.2 ⟨fun y hy e => ?_, ha⟩
      have : sg * x.p ≤ sg * y.p := by
        rcases List.mem_cons.1 hy with rfl | hy
        · exact Int.le_refl _
        · exact hs2.1 y hy
      rw [← e] at this
      exact absurd this hn
theorem Rise.ins {most room : Nat} {l : Bool → List OrdR} {k : Int} (h : Rise l k) (g : Good most room l) {o : OrdR} (ho : o.i = k + 1) : Rise (insS most room l o) (k + 1) := by
  unfold insS
  split
  · refine ⟨fun q => ?_, fun q x hx => ?_⟩
    · by_cases e : q = qOf o.s
      · subst e; rw [setS_same]
        exact insL_rise (g.srt _) (fun x hx => by have := h.le _ x hx; omega) (h.asc _)
      · rw [setS_other e]; exact h.asc q
    · by_cases e : q = qOf o.s
      · subst e; rw [setS_same] at hx
        rcases insL_mem.1 hx with rfl | hx
        · omega
        · have := h.le _ x hx; omega
      · rw [setS_other e] at hx
        have := h.le _ x hx; omega
  · exact h.more (by omega)
theorem Rise.rem {l : Bool → List OrdR} {k : Int} (h : Rise l k) (id : Int) : Rise (remS l id) k :=
  ⟨fun q => (h.asc q).sublist (delL_sub _ _), fun q o ho => h.le q o ((delL_sub _ _).subset ho)⟩
theorem Rise.red {most room : Nat} {l : Bool → List OrdR} {k : Int} (h : Rise l k) (g : Good most room l) (id m : Int) : Rise (redS l id m) k := by
  unfold redS
  split
  · exact h
  · rename_i o hg
    split
    · exact h
    · obtain ⟨hi, hat⟩ := getL_at hg
      have hmem : ∃ q, o ∈ l q := by
        rcases hat with ⟨j, h1, _⟩ | ⟨_, j, h1, _⟩
        · exact ⟨false, List.mem_of_getElem? h1⟩
        · exact ⟨true, List.mem_of_getElem? h1⟩
      obtain ⟨q0, ho⟩ := hmem
      have key : ∀ q, ∀ x ∈ l q, (if x.i = id then less o m else x).i = x.i ∧ (if x.i = id then less o m else x).p = x.p := fun q x hx => by
        by_cases e : x.i = id
        · rw [if_pos e]
          have hxo : x = o := by
            have hall : ∀ y : OrdR, (∃ q, y ∈ l q) → y ∈ l false ++ l true := fun y ⟨q, hy⟩ => by cases q <;> simp [hy]
            exact nodup_inj g.ids (hall x ⟨q, hx⟩) (hall o ⟨q0, ho⟩) (by rw [e, hi])
          rw [hxo]; exact ⟨rfl, rfl⟩
        · rw [if_neg e]; exact ⟨rfl, rfl⟩
      refine ⟨fun q => ?_, fun q x hx => ?_⟩
      · unfold setL
        rw [List.pairwise_map]
        refine List.Pairwise.imp_of_mem (fun {a b} ha hb hab => ?_) (h.asc q)
        rw [(key q a ha).1, (key q a ha).2, (key q b hb).1, (key q b hb).2]
        exact hab
      · unfold setL at hx
        obtain ⟨y, hy, rfl⟩ := List.mem_map.1 hx
        rw [(key q y hy).1]
        exact h.le q y hy

theorem getL_mem {l : Bool → List OrdR} (hn : ((l false ++ l true).map OrdR.i).Nodup) {q : Bool} {o : OrdR} (ho : o ∈ l q) : getL l o.i = some o := by
  have hall : ∀ y : OrdR, (∃ q, y ∈ l q) → y ∈ l false ++ l true := fun y ⟨q, hy⟩ => by cases q <;> simp [hy]
  cases e : getL l o.i with
  | none =>
    unfold getL at e
    rw [List.find?_eq_none] at e
    have := e o (hall o ⟨q, ho⟩)
    simp at this
  | some p =>
    unfold getL at e
    have h1 : p.i = o.i := by
      have := List.find?_some e
      simpa using this
    rw [nodup_inj hn (List.mem_of_find?_eq_some e) (hall o ⟨q, ho⟩) h1]

/-! ### Levels are used up -/
def subD : List LvR → List LvR → List LvR
  | D, [] => D
  | [], _ => []
  | d :: D, e :: E => ⟨d.p, d.q - e.q, d.n - e.n⟩ :: subD D E
theorem subD_nil (D : List LvR) : subD D [] = D := by cases D <;> rfl
theorem subD_self : ∀ D : List LvR, ∀ d ∈ subD D D, d.q = 0 ∧ d.n = 0
  | [], d, h => by cases h
  | x :: t, d, h => by
    rcases List.mem_cons.1 h with rfl | h
    · exact ⟨by simp, by simp⟩
    · exact subD_self t d h
theorem subD_len : ∀ D E : List LvR, (subD D E).length = D.length
  | [], [] => rfl
  | [], _ :: _ => rfl
  | _ :: _, [] => rfl
  | _ :: D, _ :: E => by simp [subD, subD_len D E]
theorem subD_at : ∀ (D E : List LvR) (k : Nat) (d : LvR), D[k]? = some d → (subD D E)[k]? = some (match E[k]? with | none => d | some e => ⟨d.p, d.q - e.q, d.n - e.n⟩)
  | [], _, k, d, h => by simp at h
  | x :: D, [], k, d, h => by simp [subD_nil, h]
  | x :: D, e :: E, 0, d, h => by simp at h; subst h; rfl
  | x :: D, e :: E, k + 1, d, h => by
    have := subD_at D E k d (by simpa using h)
    simpa [subD] using this
/-- One order more is taken off. -/
theorem subD_step {D E E' : List LvR} {k : Nat} {x : LvR} {a : Int} (hx : (subD D E)[k]? = some x) (hE : ∀ j, j ≠ k → E'[j]? = E[j]?)
    (hk : (∃ e, E[k]? = some e ∧ E'[k]? = some ⟨e.p, e.q + a, e.n + 1⟩) ∨ (E[k]? = none ∧ ∃ p, E'[k]? = some ⟨p, a, 1⟩)) : subD D E' = (subD D E).set k ⟨x.p, x.q - a, x.n - 1⟩ := by
  apply List.ext_getElem?
  intro j
  by_cases hj : j < D.length
  · obtain ⟨d, hd⟩ : ∃ d, D[j]? = some d := ⟨_, List.getElem?_eq_getElem hj⟩
    rw [subD_at D E' j d hd]
    by_cases e : j = k
    · subst e
      rw [List.getElem?_set_self (by rw [subD_len]; exact hj)]
      rw [subD_at D E j d hd] at hx
      rcases hk with ⟨e, h1, h2⟩ | ⟨h1, p, h2⟩
      · rw [h1] at hx; rw [h2]
        injection hx with hx
        subst hx
        simp only [Option.some.injEq, LvR.mk.injEq]
        first | exact ⟨by omega, by omega⟩ | exact ⟨trivial, by omega, by omega⟩ | exact ⟨rfl, by omega, by omega⟩
      · rw [h1] at hx; rw [h2]
        injection hx with hx
        subst hx
        rfl
    · rw [List.getElem?_set_ne (Ne.symm e), subD_at D E j d hd, hE j e]
  · rw [List.getElem?_eq_none (by rw [subD_len]; omega), List.getElem?_eq_none (by rw [List.length_set, subD_len]; omega)]
theorem dep_grow (A : List OrdR) (o : OrdR) : (depthL A).map (·.p) <+: (depthL (A ++ [o])).map (·.p) := by
  by_cases h : ∃ y, A.getLast? = some y ∧ y.p = o.p
  · obtain ⟨D, d, h1, h2, h3⟩ := dep_same A h
    rw [h1, h3]; simp
  · rw [dep_app A (fun y hy e => h ⟨y, hy, e⟩), List.map_append]
    exact List.prefix_append _ _
theorem dep_pre (A : List OrdR) : ∀ B : List OrdR, (depthL A).map (·.p) <+: (depthL (A ++ B)).map (·.p) := by
  intro B
  induction B generalizing A with
  | nil => simp
  | cons o t ih =>
    have := ih (A ++ [o])
    rw [List.append_assoc] at this
    exact (dep_grow A o).trans this
/-- The levels that the first i orders make up, and what is left of all. -/
theorem used_step {L : List OrdR} {i : Nat} {o : OrdR} (hi : L[i]? = some o) :
    ∃ k : Nat, (depthL (L.take (i + 1))).length = k + 1 ∧ (depthL L)[k]?.map (·.p) = some o.p ∧ (((∃ y, L[i - 1]? = some y ∧ 0 < i ∧ y.p = o.p) ∧ (depthL (L.take i)).length = k + 1) ∨ ((∀ y, 0 < i → L[i - 1]? = some y → y.p ≠ o.p) ∧ (depthL (L.take i)).length = k)) ∧
      ∃ x, (subD (depthL L) (depthL (L.take i)))[k]? = some x ∧ x.p = o.p ∧ subD (depthL L) (depthL (L.take (i + 1))) = (subD (depthL L) (depthL (L.take i))).set k ⟨x.p, x.q - o.q, x.n - 1⟩ := by
  have hil := (List.getElem?_eq_some_iff.1 hi).1
  have htk : L.take (i + 1) = L.take i ++ [o] := by rw [List.take_add_one, hi]; rfl
  have hpre := dep_pre (L.take (i + 1)) (L.drop (i + 1))
  rw [List.take_append_drop] at hpre
  obtain ⟨P, hP⟩ := hpre
  have fin : ∀ (k : Nat) (e : LvR), (depthL (L.take (i + 1)))[k]? = some e → e.p = o.p → ∃ d : LvR, (depthL L)[k]? = some d ∧ d.p = o.p := fun k e he hp => by
    have hkl := (List.getElem?_eq_some_iff.1 he).1
    have h1 : ((depthL L).map (·.p))[k]? = some e.p := by
      rw [← hP, List.getElem?_append_left (by rw [List.length_map]; exact hkl), List.getElem?_map, he]; rfl
    rw [List.getElem?_map] at h1
    cases hd : (depthL L)[k]? with
    | none => rw [hd] at h1; cases h1
    | some d =>
      rw [hd] at h1
      have h1 : d.p = e.p := by simpa using h1
      exact ⟨d, rfl, h1.trans hp⟩
  have last : ∀ y, (L.take i).getLast? = some y → 0 < i ∧ L[i - 1]? = some y := fun y hy => by
    cases i with
    | zero => simp at hy
    | succ i => exact ⟨by omega, take_last hy (by omega)⟩
  by_cases h : ∃ y, (L.take i).getLast? = some y ∧ y.p = o.p
  · obtain ⟨D, d, h1, h2, h3⟩ := dep_same _ h
    rw [← htk] at h3
    obtain ⟨dd, hd1, hd2⟩ := fin D.length ⟨d.p, d.q + o.q, d.n + 1⟩ (by rw [h3]; simp) h2
    refine ⟨D.length, by rw [h3]; simp, by rw [hd1]; simp [hd2], .inl ⟨?_, by rw [h1]; simp⟩, ?_⟩
    · obtain ⟨y, hy, hyp⟩ := h
      exact ⟨y, (last y hy).2, (last y hy).1, hyp⟩
    · have hx := subD_at (depthL L) (depthL (L.take i)) D.length dd hd1
      rw [h1] at hx ⊢
      rw [show (D ++ [d])[D.length]? = some d by simp] at hx
      refine ⟨_, hx, hd2, ?_⟩
      refine subD_step hx (fun j hj => ?_) (.inl ⟨d, by simp, by rw [h3]; simp⟩)
      rw [h3]
      by_cases hj2 : j < D.length
      · rw [List.getElem?_append_left hj2, List.getElem?_append_left hj2]
      · rw [List.getElem?_eq_none (by simp; omega), List.getElem?_eq_none (by simp; omega)]
  · have h' : ∀ y, (L.take i).getLast? = some y → y.p ≠ o.p := fun y hy e => h ⟨y, hy, e⟩
    have h3 := dep_app (b := o) (B := []) (L.take i) h'
    rw [← htk] at h3
    have h4 : depthL [o] = [⟨o.p, o.q, 1⟩] := rfl
    rw [h4] at h3
    obtain ⟨dd, hd1, hd2⟩ := fin (depthL (L.take i)).length ⟨o.p, o.q, 1⟩ (by rw [h3]; simp) rfl
    refine ⟨(depthL (L.take i)).length, by rw [h3]; simp, by rw [hd1]; simp [hd2], .inr ⟨fun y h0 hy e => ?_, rfl⟩, ?_⟩
    · refine h' y ?_ e
      rw [List.getLast?_eq_getElem?, List.length_take, Nat.min_eq_left (by omega), List.getElem?_take_of_lt (by omega)]
      exact hy
    · have hx := subD_at (depthL L) (depthL (L.take i)) (depthL (L.take i)).length dd hd1
      rw [show (depthL (L.take i))[(depthL (L.take i)).length]? = none by simp] at hx
      refine ⟨_, hx, hd2, ?_⟩
      refine subD_step hx (fun j hj => ?_) (.inr ⟨by simp, o.p, by rw [h3]; simp⟩)
      rw [h3]
      by_cases hj2 : j < (depthL (L.take i)).length
      · rw [List.getElem?_append_left hj2]
      · rw [List.getElem?_eq_none (by simp; omega), List.getElem?_eq_none (by omega)]
theorem subD_bd : ∀ {D E : List LvR} {a b : Int}, (∀ d ∈ D, 0 ≤ d.q ∧ d.q ≤ a ∧ 0 ≤ d.n ∧ d.n ≤ b) → (∀ d ∈ E, 0 ≤ d.q ∧ d.q ≤ a ∧ 0 ≤ d.n ∧ d.n ≤ b) → ∀ x ∈ subD D E, -a ≤ x.q ∧ x.q ≤ a ∧ -b ≤ x.n ∧ x.n ≤ b
  | [], [], _, _, _, _, x, hx => by cases hx
  | [], _ :: _, _, _, _, _, x, hx => by cases hx
  | d :: D, [], a, b, h, _, x, hx => by have := h x hx; omega
  | d :: D, e :: E, a, b, h, k, x, hx => by
    have h1 := h d (by simp)
    have h2 := k e (by simp)
    rcases List.mem_cons.1 hx with rfl | hx
    · simp only; omega
    · exact subD_bd (fun d hd => h d (by simp [hd])) (fun d hd => k d (by simp [hd])) x hx

/-! ### A first part up to a limit -/
theorem fac_parts {sg lim : Int} : ∀ {L : List OrdR}, L.Pairwise (fun x y => sg * x.p ≤ sg * y.p) → ∃ D, L = facL sg lim L ++ D ∧ (lim ≠ 0 → ∀ x ∈ facL sg lim L, sg * x.p ≤ sg * lim) ∧ (∀ x ∈ D, lim ≠ 0 ∧ sg * lim < sg * x.p) := by
  intro L hs
  by_cases h0 : lim = 0
  · refine ⟨[], ?_, fun h => absurd h0 h, fun x hx => (by cases hx)⟩
    unfold facL; rw [if_pos h0, List.append_nil]
  · unfold facL
    simp only [if_neg h0]
    induction L with
    | nil => exact ⟨[], rfl, fun _ x hx => (by cases hx), fun x hx => (by cases hx)⟩
    | cons y t ih =>
      have hs2 := List.pairwise_cons.1 hs
      by_cases hy : sg * y.p ≤ sg * lim
      · obtain ⟨D, h1, h2, h3⟩ := ih hs2.2
        refine ⟨D, ?_, fun hne x hx => ?_, h3⟩
        · rw [List.filter_cons, if_pos (by simpa using hy), List.cons_append, ← h1]
        · rw [List.filter_cons, if_pos (by simpa using hy)] at hx
          rcases List.mem_cons.1 hx with rfl | hx
          · exact hy
          · exact h2 hne x hx
      · have hall : ∀ x ∈ y :: t, sg * lim < sg * x.p := fun x hx => by
          rcases List.mem_cons.1 hx with rfl | hx
          · omega
          · have := hs2.1 x hx; omega
        have he : (y :: t).filter (fun o => decide (sg * o.p ≤ sg * lim)) = [] := List.filter_eq_nil_iff.2 fun x hx => by have := hall x hx; simp; omega
        rw [he]
        exact ⟨y :: t, rfl, fun _ x hx => (by cases hx), fun x hx => ⟨h0, hall x hx⟩⟩

/-! ### Clients -/
def below (c : Int) (L : List OrdR) : Int := ((L.filter fun o => decide (o.c < c)).length : Nat)
theorem below_step (c : Int) (L : List OrdR) : below (c + 1) L = below c L + cntC c L := by
  unfold below cntC ofC
  induction L with
  | nil => rfl
  | cons o t ih =>
    simp only [List.filter_cons]
    by_cases h1 : o.c < c
    · rw [if_pos (by simp; omega), if_pos (by simpa using h1), if_neg (by simp; omega)]
      simp only [List.length_cons]; omega
    · by_cases h2 : o.c = c
      · rw [if_pos (by simp; omega), if_neg (by simpa using h1), if_pos (by simpa using h2)]
        simp only [List.length_cons]; omega
      · rw [if_neg (by simp; omega), if_neg (by simpa using h1), if_neg (by simpa using h2)]
        exact ih
theorem below_one {L : List OrdR} (h : ∀ o ∈ L, Okd o) : below 1 L = 0 := by
  unfold below
  rw [List.filter_eq_nil_iff.2 fun o ho => by have := (h o ho).2.2.1; simp; omega]; rfl
theorem below_all {L : List OrdR} (h : ∀ o ∈ L, Okd o) : below 9 L = (L.length : Nat) := by
  unfold below
  rw [List.filter_eq_self.2 fun o ho => by have := (h o ho).2.2.2.1; simp; omega]
theorem lvlC_setAt : ∀ {L : List LvR} {k : Nat} {d : LvR} (x y : Int), L[k]? = some d → lvlC (L.set k ⟨d.p, x, y⟩) = ((lvlC L).set (k * 3 + 1) (.int .i64 x)).set (k * 3 + 2) (.int .i64 y)
  | [], k, d, x, y, h => by simp at h
  | z :: t, 0, d, x, y, h => by
    have h : z = d := by simpa using h
    subst h; rfl
  | z :: t, k + 1, d, x, y, h => by
    have ih := lvlC_setAt (L := t) (k := k) (d := d) x y (by simpa using h)
    have e1 : (k + 1) * 3 + 1 = (k * 3 + 1) + 3 := by omega
    have e2 : (k + 1) * 3 + 2 = (k * 3 + 2) + 3 := by omega
    rw [e1, e2]
    show lvlC (z :: t.set k _) = _
    have c : ∀ l : List LvR, lvlC (z :: l) = .int .i64 z.p :: .int .i64 z.q :: .int .i64 z.n :: lvlC l := fun l => rfl
    rw [c, c, ih]
    rfl
end Go.Proofs.Ytilngakgofjmpaa
