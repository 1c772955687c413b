/- Plan: plain laws: whom an entry meets, what is left, what has gone. No condition. -/
import Derived.Test.YtilngakgofjmpaaPlB
import Derived.Test.YtilngakgofjmpaaBo1
import Derived.Test.YtilngakgofjmpaaBdS
import Derived.Test.YtilngakgofjmpaaR6h
namespace Go.Proofs.Ytilngakgofjmpaa
set_option linter.unusedVariables false
set_option linter.unusedSimpArgs false
open Go.RowKit Go.Shelf
open Od (OrdR)

/-- How much of an order is met, and what is left behind it. -/
def hitOf (c left : Int) (x : OrdR) : HitR := if x.c = c then ⟨x.i, x.p, x.q, true⟩ else ⟨x.i, x.p, min x.q left, false⟩
def leftOf (c left : Int) (x : OrdR) : Int := if x.c = c then left else left - min x.q left
def meet (c : Int) : Int → List OrdR → List HitR
  | _, [] => []
  | left, x :: t => if left = 0 then [] else hitOf c left x :: meet c (leftOf c left x) t
def leftM (c : Int) : Int → List OrdR → Int
  | left, [] => left
  | left, x :: t => if left = 0 then 0 else leftM c (leftOf c left x) t
def goneM (c : Int) : Int → List OrdR → Nat
  | _, [] => 0
  | left, x :: t => if left = 0 then 0 else (if (hitOf c left x).q = x.q then 1 else 0) + goneM c (leftOf c left x) t
/-- What others have. -/
def lotsO (c : Int) (L : List OrdR) : Int := sumQ (L.filter fun x => decide (x.c ≠ c))

theorem meet_zero (c : Int) (L : List OrdR) : meet c 0 L = [] := by cases L <;> simp [meet]
theorem leftM_zero (c : Int) (L : List OrdR) : leftM c 0 L = 0 := by cases L <;> simp [leftM]
theorem goneM_zero (c : Int) (L : List OrdR) : goneM c 0 L = 0 := by cases L <;> simp [goneM]
theorem leftM_append (c : Int) : ∀ (A B : List OrdR) (left : Int), leftM c left (A ++ B) = leftM c (leftM c left A) B
  | [], B, left => rfl
  | x :: A, B, left => by
    simp only [List.cons_append, leftM]
    split
    · rw [leftM_zero]
    · exact leftM_append c A B _
theorem meet_append (c : Int) : ∀ (A B : List OrdR) (left : Int), meet c left (A ++ B) = meet c left A ++ meet c (leftM c left A) B
  | [], B, left => rfl
  | x :: A, B, left => by
    simp only [List.cons_append, meet, leftM]
    split
    · rw [meet_zero]; rfl
    · rw [meet_append c A B]; rfl
theorem goneM_append (c : Int) : ∀ (A B : List OrdR) (left : Int), goneM c left (A ++ B) = goneM c left A + goneM c (leftM c left A) B
  | [], B, left => by simp [goneM, leftM]
  | x :: A, B, left => by
    simp only [List.cons_append, goneM, leftM]
    split
    · rw [goneM_zero]
    · rw [goneM_append c A B]; omega
theorem meet_one (c left : Int) (x : OrdR) (h : left ≠ 0) : meet c left [x] = [hitOf c left x] := by simp [meet, h]
theorem leftM_one (c left : Int) (x : OrdR) (h : left ≠ 0) : leftM c left [x] = leftOf c left x := by simp [leftM, h]
theorem goneM_one (c left : Int) (x : OrdR) (h : left ≠ 0) : goneM c left [x] = if (hitOf c left x).q = x.q then 1 else 0 := by simp [goneM, h]
/-- Once nothing is left nobody more is met. -/
theorem meet_done {c left : Int} {A : List OrdR} (h : leftM c left A = 0) (B : List OrdR) : meet c left (A ++ B) = meet c left A ∧ leftM c left (A ++ B) = 0 ∧ goneM c left (A ++ B) = goneM c left A := by
  rw [meet_append, leftM_append, goneM_append, h, meet_zero, leftM_zero, goneM_zero]
  exact ⟨List.append_nil _, rfl, rfl⟩
theorem leftOf_bd {c left : Int} {x : OrdR} (h : 0 ≤ left) (hx : 1 ≤ x.q) : 0 ≤ leftOf c left x ∧ leftOf c left x ≤ left := by
  unfold leftOf
  split <;> omega
theorem leftM_bd {c : Int} : ∀ {L : List OrdR} {left : Int}, 0 ≤ left → (∀ x ∈ L, 1 ≤ x.q) → 0 ≤ leftM c left L ∧ leftM c left L ≤ left
  | [], left, h, _ => ⟨h, Int.le_refl _⟩
  | x :: t, left, h, hq => by
    simp only [leftM]
    split
    · omega
    · have h1 := leftOf_bd (c := c) h (hq x (by simp))
      have h2 := leftM_bd (c := c) (L := t) h1.1 (fun y hy => hq y (by simp [hy]))
      omega
theorem meet_len (c : Int) : ∀ (L : List OrdR) (left : Int), (meet c left L).length ≤ L.length
  | [], _ => Nat.le_refl _
  | x :: t, left => by
    simp only [meet]
    split
    · simp
    · have := meet_len c t (leftOf c left x)
      simp only [List.length_cons]; omega
theorem goneM_le (c : Int) : ∀ (L : List OrdR) (left : Int), goneM c left L ≤ (meet c left L).length
  | [], _ => Nat.le_refl _
  | x :: t, left => by
    simp only [meet, goneM]
    split
    · simp
    · have := goneM_le c t (leftOf c left x)
      simp only [List.length_cons]; split <;> omega
theorem lotsO_nil (c : Int) : lotsO c [] = 0 := rfl
theorem lotsO_snoc (c : Int) (L : List OrdR) (x : OrdR) : lotsO c (L ++ [x]) = if x.c = c then lotsO c L else lotsO c L + x.q := by
  unfold lotsO
  rw [List.filter_append, sumQ_append]
  by_cases h : x.c = c
  · rw [if_pos h]; simp [h, sumQ_nil]
  · rw [if_neg h]; simp [h, sumQ_cons, sumQ_nil]
theorem lotsO_bd {c : Int} : ∀ {L : List OrdR}, (∀ x ∈ L, 1 ≤ x.q ∧ x.q ≤ 1000000000) → 0 ≤ lotsO c L ∧ lotsO c L ≤ L.length * 1000000000
  | [], _ => by simp [lotsO_nil]
  | x :: t, h => by
    have ih := lotsO_bd (c := c) (L := t) (fun y hy => h y (by simp [hy]))
    have hx := h x (by simp)
    have e : lotsO c (x :: t) = if x.c = c then lotsO c t else x.q + lotsO c t := by
      unfold lotsO
      by_cases hc : x.c = c <;> simp [hc, sumQ_cons]
    rw [e]
    simp only [List.length_cons]
    split <;> omega
/-- What is left is what others lack. -/
theorem leftM_lots {c : Int} : ∀ {L : List OrdR} {left : Int}, 0 ≤ left → (∀ x ∈ L, 1 ≤ x.q) → leftM c left L = max 0 (left - lotsO c L)
  | [], left, h, _ => by simp [leftM, lotsO_nil]; omega
  | x :: t, left, h, hq => by
    have e : lotsO c (x :: t) = if x.c = c then lotsO c t else x.q + lotsO c t := by
      unfold lotsO
      by_cases hc : x.c = c <;> simp [hc, sumQ_cons]
    have hnn : 0 ≤ lotsO c t := by
      clear e
      induction t with
      | nil => exact Int.le_refl _
      | cons y t ih =>
        have e : lotsO c (y :: t) = if y.c = c then lotsO c t else y.q + lotsO c t := by
          unfold lotsO
          by_cases hc : y.c = c <;> simp [hc, sumQ_cons]
        have h1 := hq y (by simp)
        have h2 := ih (fun z hz => hq z (by rcases List.mem_cons.1 hz with rfl | hz <;> simp [*]))
        rw [e]; split <;> omega
    have hx := hq x (by simp)
    simp only [leftM]
    rw [e]
    split
    · split <;> omega
    · rw [leftM_lots (L := t) (leftOf_bd h hx).1 (fun y hy => hq y (by simp [hy]))]
      unfold leftOf
      split <;> omega

/-! ### Plans -/
structure PlanR where
  err : Int
  hits : List HitR
  traded : Int
  rests : Int
  gone : Int
def noPlan (e : Int) : PlanR := ⟨e, [], 0, 0, 0⟩
/-- What an entry that may be would do, of those that face it; fit: is there room for what rests, when so many have gone. -/
def planR (e : EnR) (F : List OrdR) (fit : Nat → Int) : PlanR :=
  if e.k = 5 ∧ F ≠ [] then noPlan 80 else if e.k = 4 ∧ lotsO e.c F < e.q then noPlan 81
  else if e.k = 1 ∨ e.k = 5 then
    (if 0 < leftM e.c e.q F ∧ fit (goneM e.c e.q F) ≠ 0 then noPlan (fit (goneM e.c e.q F)) else ⟨0, meet e.c e.q F, e.q - leftM e.c e.q F, leftM e.c e.q F, 0⟩)
  else ⟨0, meet e.c e.q F, e.q - leftM e.c e.q F, 0, leftM e.c e.q F⟩
/-- Is there room for an order of a price, if so many of the other side have gone, and one order (perhaps none) is out? -/
def roomF (most : Nat) (D : List LvR) (out : OrdR) (p : Int) : List LvR → Int → Int
  | [], room => if room = 0 then 61 else 0
  | d :: t, room => if out.i ≠ 0 ∧ d.p = out.p ∧ d.n = 1 then roomF most D out p t (room + 1) else if d.p = p then 0 else roomF most D out p t room
def fitC (most room : Nat) (l : Bool → List OrdR) (s p : Int) (out : OrdR) (gone : Nat) : Int :=
  if out.i = 0 ∧ gone = 0 then fitS most room l s p else roomF most [] out p (depthL (l (qOf s))) (priceS most l s)
end Go.Proofs.Ytilngakgofjmpaa

/- Plan: plain laws: room for what rests, as the code and as the document reckon it. Conditions: a book's orders. -/
namespace Go.Proofs.Ytilngakgofjmpaa
set_option linter.unusedVariables false
set_option linter.unusedSimpArgs false
open Go.RowKit Go.Shelf
open Od (OrdR)

def aloneB (out : OrdR) (d : LvR) : Bool := decide (out.i ≠ 0 ∧ d.p = out.p ∧ d.n = 1)
theorem roomF_eq {most : Nat} {D : List LvR} {out : OrdR} {p : Int} : ∀ (t : List LvR) (room : Int),
    roomF most D out p t room = if p ∈ (t.filter fun d => !aloneB out d).map (·.p) then 0 else if room + ((t.filter fun d => aloneB out d).length : Nat) = 0 then 61 else 0
  | [], room => by simp [roomF]
  | d :: t, room => by
    unfold roomF
    by_cases h : out.i ≠ 0 ∧ d.p = out.p ∧ d.n = 1
    · have ha : aloneB out d = true := decide_eq_true h
      rw [if_pos h, roomF_eq t]
      simp only [List.filter_cons, ha, Bool.not_true, Bool.false_eq_true, if_false, if_true, List.length_cons]
      split
      · rfl
      · by_cases hz : room + 1 + ((t.filter fun d => aloneB out d).length : Nat) = 0
        · rw [if_pos hz, if_pos (by omega)]
        · rw [if_neg hz, if_neg (by omega)]
    · have ha : aloneB out d = false := decide_eq_false h
      rw [if_neg h]
      simp only [List.filter_cons, ha, Bool.not_false, Bool.false_eq_true, if_false, if_true, List.map_cons, List.mem_cons]
      by_cases hp : d.p = p
      · rw [if_pos hp]; exact (if_pos (.inl hp.symm)).symm
      · rw [if_neg hp, roomF_eq t]
        by_cases hm : p ∈ (t.filter fun d => !aloneB out d).map (·.p)
        · exact (if_pos hm).trans (if_pos (.inr hm)).symm
        · exact (if_neg hm).trans (if_neg (by rintro (e | e); exact hp e.symm; exact hm e)).symm
theorem roomF_zero {most : Nat} {D : List LvR} {out : OrdR} {p : Int} (h : out.i = 0) (t : List LvR) (room : Int) : roomF most D out p t room = if p ∈ t.map (·.p) then 0 else if room = 0 then 61 else 0 := by
  have h1 : (t.filter fun d => !aloneB out d) = t := List.filter_eq_self.2 fun d _ => by simp [aloneB, h]
  have h2 : (t.filter fun d => aloneB out d) = [] := List.filter_eq_nil_iff.2 fun d _ => by simp [aloneB, h]
  rw [roomF_eq, h1, h2]; simp

theorem prices_mem {p : Int} : ∀ {L : List OrdR}, p ∈ pricesL L → ∃ x ∈ L, x.p = p
  | [], h => by cases h
  | x :: t, h => by
    by_cases e : x.p = p
    · exact ⟨x, by simp, e⟩
    · have : p ∈ pricesL t := by
        unfold pricesL at h
        cases hq : pricesL t with
        | nil => rw [hq] at h; simp at h; exact absurd h.symm e
        | cons q ps =>
          rw [hq] at h
          simp only at h
          split at h
          · exact h
          · rcases List.mem_cons.1 h with h | h
            · exact absurd h.symm e
            · exact h
      obtain ⟨y, hy, hyp⟩ := prices_mem this
      exact ⟨y, by simp [hy], hyp⟩

/-! ### An order out of its side -/
/-- A side is what stands ahead of a price, those of the price, and those behind it. -/
theorem split_price {sg : Int} (hsg : sg = 1 ∨ sg = -1) {L : List OrdR} (hs : L.Pairwise fun x y => sg * x.p ≤ sg * y.p) (p : Int) :
    ∃ A X B, L = A ++ X ++ B ∧ (∀ x ∈ A, sg * x.p < sg * p) ∧ (∀ x ∈ X, x.p = p) ∧ (∀ x ∈ B, sg * p < sg * x.p) := by
  induction L with
  | nil => exact ⟨[], [], [], rfl, fun _ h => (by cases h), fun _ h => (by cases h), fun _ h => (by cases h)⟩
  | cons y t ih =>
    have hs2 := List.pairwise_cons.1 hs
    obtain ⟨A, X, B, e, h1, h2, h3⟩ := ih hs2.2
    by_cases hlt : sg * y.p < sg * p
    · exact ⟨y :: A, X, B, by rw [e]; rfl, fun x hx => by rcases List.mem_cons.1 hx with rfl | hx; exact hlt; exact h1 x hx, h2, h3⟩
    · have hA : A = [] := by
        cases A with
        | nil => rfl
        | cons a A =>
          have g1 := hs2.1 a (by rw [e]; simp)
          have g2 := h1 a (by simp)
          omega
      subst hA
      by_cases heq : y.p = p
      · exact ⟨[], y :: X, B, by rw [e]; rfl, fun _ h => (by cases h), fun x hx => by rcases List.mem_cons.1 hx with rfl | hx; exact heq; exact h2 x hx, h3⟩
      · have hX : X = [] := by
          cases X with
          | nil => rfl
          | cons a X =>
            have g1 := hs2.1 a (by rw [e]; simp)
            have g2 := h2 a (by simp)
            rw [g2] at g1
            rcases hsg with h | h <;> subst h <;> omega
        subst hX
        refine ⟨[], [], y :: B, by rw [e]; rfl, fun _ h => (by cases h), fun _ h => (by cases h), fun x hx => ?_⟩
        rcases List.mem_cons.1 hx with rfl | hx
        · rcases hsg with h | h <;> subst h <;> omega
        · exact h3 x hx
theorem dep_three {sg p : Int} {A X B : List OrdR} (h1 : ∀ x ∈ A, sg * x.p < sg * p) (h2 : ∀ x ∈ X, x.p = p) (h3 : ∀ x ∈ B, sg * p < sg * x.p) :
    (X ≠ [] → depthL (A ++ X ++ B) = depthL A ++ ⟨p, sumQ X, X.length⟩ :: depthL B) ∧ depthL (A ++ B) = depthL A ++ depthL B := by
  have hB : ∀ x r, depthL B = x :: r → x.p ≠ p := fun x r e => by
    cases B with
    | nil => cases e
    | cons b B =>
      obtain ⟨z, r2, e2, hp⟩ := dep_head b B
      rw [e2] at e; injection e with e _
      rw [← e, hp]
      have := h3 b (by simp)
      intro e; rw [e] at this; omega
  have hA : ∀ y, A.getLast? = some y → sg * y.p < sg * p := fun y hy => h1 y (List.mem_of_getLast? hy)
  refine ⟨fun hX => ?_, ?_⟩
  · cases X with
    | nil => exact absurd rfl hX
    | cons x X =>
      rw [List.append_assoc, List.cons_append, dep_app A (fun y hy e => by have := hA y hy; rw [e, h2 x (by simp)] at this; omega), ← List.cons_append, depthL_group hB _ hX h2]
  · cases B with
    | nil => simp [depthL]
    | cons b B => rw [dep_app A (fun y hy e => by have := hA y hy; have := h3 b (by simp); rw [e] at *; omega)]
/-- The prices without one of the orders. -/
theorem prices_out {sg : Int} (hsg : sg = 1 ∨ sg = -1) {L : List OrdR} (hs : L.Pairwise fun x y => sg * x.p ≤ sg * y.p) (hn : (L.map OrdR.i).Nodup) {o : OrdR} (ho : o ∈ L) (h0 : o.i ≠ 0) :
    pricesL (delL o.i L) = ((depthL L).filter fun d => !aloneB o d).map (·.p) ∧ (pricesL (delL o.i L)).length + ((depthL L).filter fun d => aloneB o d).length = (pricesL L).length := by
  obtain ⟨A, X, B, e, h1, h2, h3⟩ := split_price hsg hs o.p
  have hoX : o ∈ X := by
    rw [e] at ho
    rcases List.mem_append.1 ho with ho | ho
    · rcases List.mem_append.1 ho with ho | ho
      · have := h1 o ho; omega
      · exact ho
    · have := h3 o ho; omega
  obtain ⟨j, hj⟩ := List.getElem?_of_mem hoX
  have hsp := split_at hj
  have hX' : delL o.i L = A ++ (X.take j ++ X.drop (j + 1)) ++ B := by
    have hjl := (List.getElem?_eq_some_iff.1 hj).1
    have hat : L[A.length + j]? = some o := by
      rw [e, List.append_assoc, List.getElem?_append_right (by omega), Nat.add_sub_cancel_left, List.getElem?_append_left hjl]; exact hj
    rw [del_at hat rfl hn, e]
    rw [List.append_assoc, List.take_append, List.take_of_length_le (by omega), Nat.add_sub_cancel_left, List.take_append, List.drop_append, List.drop_eq_nil_of_le (by omega), List.drop_append]
    rw [show A.length + j + 1 - A.length = j + 1 by omega, show j - X.length = 0 by omega, show j + 1 - X.length = 0 by omega]
    simp
  have hXne : X ≠ [] := fun h => by rw [h] at hoX; cases hoX
  have hD := (dep_three h1 h2 h3).1 hXne
  have hAne : ∀ d ∈ depthL A, aloneB o d = false := fun d hd => by
    have : d.p ∈ pricesL A := by rw [← dep_prices]; exact List.mem_map.2 ⟨d, hd, rfl⟩
    obtain ⟨x, hx, hxp⟩ := prices_mem this
    have := h1 x hx
    simp only [aloneB, decide_eq_false_iff_not]
    rintro ⟨_, hp, _⟩
    rw [hxp, hp] at this; omega
  have hBne : ∀ d ∈ depthL B, aloneB o d = false := fun d hd => by
    have : d.p ∈ pricesL B := by rw [← dep_prices]; exact List.mem_map.2 ⟨d, hd, rfl⟩
    obtain ⟨x, hx, hxp⟩ := prices_mem this
    have := h3 x hx
    simp only [aloneB, decide_eq_false_iff_not]
    rintro ⟨_, hp, _⟩
    rw [hxp, hp] at this; omega
  have fA : (depthL A).filter (fun d => !aloneB o d) = depthL A := List.filter_eq_self.2 fun d hd => by simp [hAne d hd]
  have fB : (depthL B).filter (fun d => !aloneB o d) = depthL B := List.filter_eq_self.2 fun d hd => by simp [hBne d hd]
  have gA : (depthL A).filter (fun d => aloneB o d) = [] := List.filter_eq_nil_iff.2 fun d hd => by simp [hAne d hd]
  have gB : (depthL B).filter (fun d => aloneB o d) = [] := List.filter_eq_nil_iff.2 fun d hd => by simp [hBne d hd]
  rw [← dep_prices, ← dep_prices, hX']
  have hpL : depthL L = depthL A ++ ⟨o.p, sumQ X, X.length⟩ :: depthL B := by rw [e]; exact hD
  rw [hpL]
  by_cases hone : X.length = 1
  · have hX0 : X.take j ++ X.drop (j + 1) = [] := by
      have : (X.take j ++ X.drop (j + 1)).length = 0 := by
        have hjl := (List.getElem?_eq_some_iff.1 hj).1
        rw [List.length_append, List.length_take, List.length_drop]; omega
      exact List.eq_nil_of_length_eq_zero this
    have hal : aloneB o ⟨o.p, sumQ X, X.length⟩ = true := by simp [aloneB, h0, hone]
    rw [hX0, List.append_nil, (dep_three h1 h2 h3).2]
    rw [List.filter_append, List.filter_append, List.filter_cons, List.filter_cons, hal, fA, fB, gA, gB]
    simp
    try omega
  · have hal : aloneB o ⟨o.p, sumQ X, X.length⟩ = false := by simp [aloneB, h0]; omega
    have hne : X.take j ++ X.drop (j + 1) ≠ [] := fun h => by
      have hjl := (List.getElem?_eq_some_iff.1 hj).1
      have := congrArg List.length h
      rw [List.length_append, List.length_take, List.length_drop] at this
      rw [show ([] : List OrdR).length = 0 from rfl] at this
      omega
    have h2' : ∀ x ∈ X.take j ++ X.drop (j + 1), x.p = o.p := fun x hx => h2 x (by
      rcases List.mem_append.1 hx with hx | hx
      · exact List.mem_of_mem_take hx
      · exact List.mem_of_mem_drop hx)
    rw [(dep_three h1 h2' h3).1 hne]
    rw [List.filter_append, List.filter_append, List.filter_cons, List.filter_cons, hal, fA, fB, gA, gB]
    simp
end Go.Proofs.Ytilngakgofjmpaa

/- Plan: plain laws: the document's way to ask for room (goners taken out of a copy), and the code's: they agree. Conditions: a book's orders. -/
namespace Go.Proofs.Ytilngakgofjmpaa
set_option linter.unusedVariables false
set_option linter.unusedSimpArgs false
open Go.RowKit Go.Shelf
open Od (OrdR)

/-- The numbers of those that are met whole. -/
def goneI (c : Int) : Int → List OrdR → List Int
  | _, [] => []
  | left, x :: t => if left = 0 then [] else (if (hitOf c left x).q = x.q then [x.i] else []) ++ goneI c (leftOf c left x) t
theorem goneI_len (c : Int) : ∀ (L : List OrdR) (left : Int), (goneI c left L).length = goneM c left L
  | [], _ => rfl
  | x :: t, left => by
    simp only [goneI, goneM]
    split
    · rfl
    · rw [List.length_append, goneI_len c t]; split <;> rfl
theorem goneI_sub (c : Int) : ∀ (L : List OrdR) (left : Int), (goneI c left L).Sublist (L.map OrdR.i)
  | [], _ => List.Sublist.refl _
  | x :: t, left => by
    simp only [goneI]
    split
    · exact List.nil_sublist _
    · split
      · exact (goneI_sub c t _).cons_cons _
      · exact (goneI_sub c t _).cons _
/-- Without so many numbers. -/
def without (l : Bool → List OrdR) (ids : List Int) : Bool → List OrdR := fun k => (l k).filter fun x => decide (x.i ∉ ids)
theorem without_nil (l : Bool → List OrdR) : without l [] = l := funext fun k => List.filter_eq_self.2 fun x _ => by simp
theorem without_snoc (l : Bool → List OrdR) (ids : List Int) (k : Int) : remS (without l ids) k = without l (ids ++ [k]) := funext fun q => by
  unfold remS without delL
  rw [List.filter_filter]
  refine List.filter_congr fun x _ => ?_
  by_cases h1 : x.i = k <;> by_cases h2 : x.i ∈ ids <;> simp [h1, h2]
theorem Good.sub {most room : Nat} {l l' : Bool → List OrdR} (g : Good most room l) (h : ∀ q, (l' q).Sublist (l q)) (hp : ∀ q, (pricesL (l' q)).length ≤ (pricesL (l q)).length) : Good most room l' := by
  refine ⟨g.ids.sublist (((h false).append (h true)).map _), fun q o ho => g.ok q o ((h q).subset ho), fun q o ho => g.side q o ((h q).subset ho), ?_, fun q => (g.srt q).sublist (h q), fun q => Nat.le_trans (hp q) (g.prices q), g.small⟩
  have h1 := (h false).length_le
  have h2 := (h true).length_le
  have := g.len
  omega
theorem nodup_lenI : ∀ {K J : List Int}, K.Nodup → (∀ p ∈ K, p ∈ J) → K.length ≤ J.length
  | [], _, _, _ => Nat.zero_le _
  | x :: t, J, hn, h => by
    have h2 := List.nodup_cons.1 hn
    have hx : x ∈ J := h x (by simp)
    have ih := nodup_lenI (J := J.erase x) h2.2 (fun p hp => (List.mem_erase_of_ne (fun e => h2.1 (by rw [← e]; exact hp))).2 (h p (by simp [hp])))
    rw [List.length_erase_of_mem hx] at ih
    have := List.length_pos_of_mem hx
    simp only [List.length_cons]; omega
theorem dep_len_lt {sg : Int} (hsg : sg = 1 ∨ sg = -1) : ∀ {L : List OrdR}, L.Pairwise (fun x y => sg * x.p ≤ sg * y.p) → ∀ {M : List OrdR}, M.Sublist L → (pricesL M).length ≤ (pricesL L).length := by
  intro L hs M hM
  -- the prices of a sorted list are its different prices, each once
  have key : ∀ {L : List OrdR}, L.Pairwise (fun x y => sg * x.p ≤ sg * y.p) → (pricesL L).Pairwise (fun a b => sg * a < sg * b) ∧ ∀ p, p ∈ pricesL L ↔ ∃ x ∈ L, x.p = p := by
    intro L
    induction L with
    | nil => exact fun _ => ⟨List.Pairwise.nil, fun p => ⟨fun h => (by cases h), fun ⟨x, hx, _⟩ => (by cases hx)⟩⟩
    | cons y t ih =>
      intro hs
      have hs2 := List.pairwise_cons.1 hs
      obtain ⟨h1, h2⟩ := ih hs2.2
      cases hq : pricesL t with
      | nil =>
        have e : pricesL (y :: t) = [y.p] := by unfold pricesL; rw [hq]
        have ht : t = [] := by
          cases t with
          | nil => rfl
          | cons z t => have := (h2 z.p).2 ⟨z, by simp, rfl⟩; rw [hq] at this; cases this
        rw [e, ht]
        exact ⟨List.pairwise_singleton _ _, fun p => by simp [eq_comm]⟩
      | cons q ps =>
        have hmem : ∀ p, p ∈ q :: ps → sg * y.p ≤ sg * p := fun p hp => by
          obtain ⟨x, hx, e⟩ := (h2 p).1 (by rw [hq]; exact hp)
          have := hs2.1 x hx
          rw [← e]; exact this
        rw [hq] at h1 h2
        by_cases e1 : q = y.p
        · have e : pricesL (y :: t) = q :: ps := by unfold pricesL; rw [hq]; simp only; rw [if_pos e1]
          rw [e]
          refine ⟨h1, fun p => ⟨fun h => ?_, fun ⟨x, hx, hxp⟩ => ?_⟩⟩
          · obtain ⟨x, hx, hxp⟩ := (h2 p).1 h
            exact ⟨x, by simp [hx], hxp⟩
          · rcases List.mem_cons.1 hx with rfl | hx
            · rw [← hxp, ← e1]; simp
            · exact (h2 p).2 ⟨x, hx, hxp⟩
        · have e : pricesL (y :: t) = y.p :: q :: ps := by unfold pricesL; rw [hq]; simp only; rw [if_neg e1]
          rw [e]
          refine ⟨List.pairwise_cons.2 ⟨fun p hp => ?_, h1⟩, fun p => ⟨fun h => ?_, fun ⟨x, hx, hxp⟩ => ?_⟩⟩
          · have a1 := hmem q (by simp)
            have a2 : sg * q ≤ sg * p := by
              rcases List.mem_cons.1 hp with rfl | hp
              · exact Int.le_refl _
              · have := (List.pairwise_cons.1 h1).1 p hp; omega
            have a3 : sg * y.p ≠ sg * q := fun e => by rcases hsg with h | h <;> subst h <;> omega
            omega
          · rcases List.mem_cons.1 h with rfl | h
            · exact ⟨y, by simp, rfl⟩
            · obtain ⟨x, hx, hxp⟩ := (h2 p).1 h
              exact ⟨x, by simp [hx], hxp⟩
          · rcases List.mem_cons.1 hx with rfl | hx
            · rw [← hxp]; simp
            · exact List.mem_cons_of_mem _ ((h2 p).2 ⟨x, hx, hxp⟩)
  have k1 := key hs
  have k2 := key (hs.sublist hM)
  have hnd : (pricesL M).Nodup := k2.1.imp fun h e => by rw [e] at h; omega
  refine nodup_lenI hnd fun p hp => ?_
  obtain ⟨x, hx, e⟩ := (k2.2 p).1 hp
  exact (k1.2 p).2 ⟨x, hM.subset hx, e⟩
theorem sgn_one (q : Bool) : sgn q = 1 ∨ sgn q = -1 := by cases q; exact .inr rfl; exact .inl rfl
theorem Good.without {most room : Nat} {l : Bool → List OrdR} (g : Good most room l) (ids : List Int) : Good most room (without l ids) :=
  g.sub (fun q => List.filter_sublist) (fun q => dep_len_lt (sgn_one q) (g.srt q) List.filter_sublist)

/-! ### The two ways agree -/
theorem without_count : ∀ {L : List OrdR} {ids : List Int}, ids.Sublist (L.map OrdR.i) → (L.map OrdR.i).Nodup → (L.filter fun x => decide (x.i ∉ ids)).length + ids.length = L.length
  | [], ids, h, _ => by
    have : ids = [] := List.sublist_nil.1 h
    subst this; rfl
  | x :: t, ids, h, hn => by
    have h2 := List.nodup_cons.1 (show (x.i :: t.map OrdR.i).Nodup from hn)
    have h : ids.Sublist (x.i :: t.map OrdR.i) := h
    cases h with
    | cons _ h =>
      have hx : x.i ∉ ids := fun hm => h2.1 (h.subset hm)
      have ih := without_count h h2.2
      rw [List.filter_cons, if_pos (by simpa using hx)]
      simp only [List.length_cons]; omega
    | @cons_cons ids' _ _ h =>
      have ih := without_count h h2.2
      rw [List.filter_cons, if_neg (by simp)]
      have e : (t.filter fun y => decide (y.i ∉ x.i :: ids')) = t.filter fun y => decide (y.i ∉ ids') := List.filter_congr fun y hy => by
        have : y.i ≠ x.i := fun e => h2.1 (by rw [← e]; exact List.mem_map.2 ⟨y, hy, rfl⟩)
        simp [this]
      rw [e]
      simp only [List.length_cons]; omega
/-- The document's: 60, or what the book without the goners says. -/
def fitD (most room : Nat) (l : Bool → List OrdR) (s p : Int) (ids : List Int) : Int :=
  if (room : Int) - ((l false).length + (l true).length : Nat) + ids.length < 1 then 60 else fitS most room (without l ids) s p
theorem tot_q (l : Bool → List OrdR) (q : Bool) : (l false).length + (l true).length = (l q).length + (l (!q)).length := by cases q <;> simp [Nat.add_comm]
theorem without_side {l : Bool → List OrdR} (hn : ((l false ++ l true).map OrdR.i).Nodup) {q : Bool} {ids : List Int} (h : ∀ k ∈ ids, ∃ x ∈ l (!q), x.i = k) : without l ids q = l q :=
  List.filter_eq_self.2 fun x hx => by
    simp only [decide_eq_true_eq]
    intro hm
    obtain ⟨y, hy, e⟩ := h x.i hm
    exact ids_ne hn (q := q) (k := !q) (by cases q <;> decide) hx hy e
/-- What the book without the goners says, of the same side. -/
theorem fitS_without {most room : Nat} {l : Bool → List OrdR} (g : Good most room l) (q : Bool) {p : Int} (hp : 1 ≤ p ∧ p ≤ 1000000000) {ids : List Int} (h : ids.Sublist ((l (!q)).map OrdR.i)) :
    fitS most room (without l ids) (sdN q) p = if (l false).length + (l true).length - ids.length = room then 60 else if p ∈ pricesL (l q) then 0 else if (pricesL (l q)).length = most then 61 else 0 := by
  have hmem : ∀ k ∈ ids, ∃ x ∈ l (!q), x.i = k := fun k hk => by
    obtain ⟨x, hx, e⟩ := List.mem_map.1 (h.subset hk)
    exact ⟨x, hx, e⟩
  have hside := without_side g.ids hmem
  have hc := without_count h (ids_one g.ids (!q))
  have htot : (without l ids false).length + (without l ids true).length = (l false).length + (l true).length - ids.length := by
    rw [tot_q (without l ids) q, tot_q l q, hside]
    unfold without
    omega
  unfold fitS
  rw [if_pos (sided_sdN q), show qOf (sdN q) = q by cases q <;> rfl]
  unfold fitsE
  rw [if_neg (not_not_intro hp), htot, hside]
theorem fit_zero {most room : Nat} {l : Bool → List OrdR} (g : Good most room l) (q : Bool) {p : Int} (hp : 1 ≤ p ∧ p ≤ 1000000000) {ids : List Int} (h : ids.Sublist ((l (!q)).map OrdR.i)) {out : OrdR} (ho : out.i = 0) :
    fitC most room l (sdN q) p out ids.length = fitD most room l (sdN q) p ids := by
  have hlen := g.len
  have hidl : ids.length ≤ (l false).length + (l true).length := by
    have h1 := h.length_le
    rw [List.length_map] at h1
    rw [tot_q l q]; omega
  unfold fitC fitD
  rw [fitS_without g q hp h]
  by_cases h0 : ids.length = 0
  · rw [if_pos ⟨ho, h0⟩, h0]
    unfold fitS
    rw [if_pos (sided_sdN q), show qOf (sdN q) = q by cases q <;> rfl]
    unfold fitsE
    rw [if_neg (not_not_intro hp), Nat.sub_zero]
    by_cases hr : (l false).length + (l true).length = room
    · have e1 : (room : Int) - ((l false).length + (l true).length : Nat) + (0 : Nat) < 1 := by omega
      rw [if_pos hr, if_pos e1]
    · have e1 : ¬ ((room : Int) - ((l false).length + (l true).length : Nat) + (0 : Nat) < 1) := by omega
      rw [if_neg hr, if_neg e1]
  · have e1 : ¬ ((room : Int) - ((l false).length + (l true).length : Nat) + (ids.length : Nat) < 1) := by omega
    have e2 : ¬ ((l false).length + (l true).length - ids.length = room) := by omega
    rw [if_neg (fun e => h0 e.2), if_neg e1, if_neg e2, roomF_zero ho]
    rw [show qOf (sdN q) = q by cases q <;> rfl, dep_prices]
    unfold priceS
    rw [if_pos (sided_sdN q), show qOf (sdN q) = q by cases q <;> rfl]
    have hpr := g.prices q
    by_cases hm : p ∈ pricesL (l q)
    · rw [if_pos hm, if_pos hm]
    · rw [if_neg hm, if_neg hm]
      by_cases hf : (pricesL (l q)).length = most
      · have e3 : ((most - (pricesL (l q)).length : Nat) : Int) = 0 := by omega
        rw [if_pos hf, if_pos e3]
      · have e3 : ¬ ((most - (pricesL (l q)).length : Nat) : Int) = 0 := by omega
        rw [if_neg hf, if_neg e3]
theorem fit_out {most room : Nat} {l : Bool → List OrdR} (g : Good most room l) (q : Bool) {p : Int} (hp : 1 ≤ p ∧ p ≤ 1000000000) {ids : List Int} (h : ids.Sublist ((l (!q)).map OrdR.i)) {o : OrdR} (ho : o ∈ l q) :
    fitC most room l (sdN q) p o ids.length = fitD most room (remS l o.i) (sdN q) p ids := by
  have hlen := g.len
  have h0 : o.i ≠ 0 := by have := (g.ok q o ho).1; omega
  have g' : Good most room (remS l o.i) := g.sub (fun k => delL_sub _ _) (fun k => dep_len_lt (sgn_one k) (g.srt k) (delL_sub _ _))
  have hoth : remS l o.i (!q) = l (!q) := by
    unfold remS
    exact delL_not fun x hx => ids_ne g.ids (q := q) (k := !q) (by cases q <;> decide) ho hx
  have hcnt : (delL o.i (l q)).length + 1 = (l q).length := by
    have h1 := without_count (L := l q) (ids := [o.i]) (by simpa using List.mem_map.2 ⟨o, ho, rfl⟩) (ids_one g.ids q)
    have e : delL o.i (l q) = (l q).filter fun x => decide (x.i ∉ [o.i]) := List.filter_congr fun x _ => by simp
    rw [e]; simpa using h1
  have htot : (remS l o.i false).length + (remS l o.i true).length + 1 = (l false).length + (l true).length := by
    rw [tot_q (remS l o.i) q, tot_q l q, hoth]
    show (delL o.i (l q)).length + _ + 1 = _
    omega
  obtain ⟨hpo, hpl⟩ := prices_out (sgn_one q) (g.srt q) (ids_one g.ids q) ho h0
  unfold fitC fitD
  rw [fitS_without g' q hp (by rw [hoth]; exact h), if_neg (fun e => h0 e.1), roomF_eq, show qOf (sdN q) = q by cases q <;> rfl]
  have hidl : ids.length ≤ (l (!q)).length := by
    have h1 := h.length_le
    rwa [List.length_map] at h1
  have htq := tot_q l q
  have hqp : 1 ≤ (l q).length := List.length_pos_of_mem ho
  have e1 : ¬ ((room : Int) - ((remS l o.i false).length + (remS l o.i true).length : Nat) + (ids.length : Nat) < 1) := by omega
  have e2 : ¬ ((remS l o.i false).length + (remS l o.i true).length - ids.length = room) := by omega
  rw [if_neg e1, if_neg e2]
  show _ = if p ∈ pricesL (delL o.i (l q)) then 0 else if (pricesL (delL o.i (l q))).length = most then 61 else 0
  rw [hpo]
  unfold priceS
  rw [if_pos (sided_sdN q), show qOf (sdN q) = q by cases q <;> rfl]
  have hpr := g.prices q
  rw [hpo] at hpl
  split
  · rfl
  · by_cases hf : (((depthL (l q)).filter fun d => !aloneB o d).map (·.p)).length = most
    · have e3 : ((most - (pricesL (l q)).length : Nat) : Int) + (((depthL (l q)).filter fun d => aloneB o d).length : Nat) = 0 := by omega
      rw [if_pos hf, if_pos e3]
    · have e3 : ¬ (((most - (pricesL (l q)).length : Nat) : Int) + (((depthL (l q)).filter fun d => aloneB o d).length : Nat) = 0) := by omega
      rw [if_neg hf, if_neg e3]
end Go.Proofs.Ytilngakgofjmpaa

/- Plan: plain laws of what is met: place by place, of a longer list, of a greater quantity. No condition. -/
namespace Go.Proofs.Ytilngakgofjmpaa
set_option linter.unusedVariables false
set_option linter.unusedSimpArgs false
open Go.RowKit Go.Shelf
open Od (OrdR)

theorem meet_full {c : Int} : ∀ {A : List OrdR} {left : Int}, leftM c left A ≠ 0 → (meet c left A).length = A.length
  | [], _, _ => rfl
  | x :: t, left, h => by
    simp only [leftM] at h
    simp only [meet]
    split at h
    · exact absurd rfl h
    · rename_i hl
      rw [if_neg hl, List.length_cons, List.length_cons, meet_full h]
/-- Place by place. -/
theorem meet_at {c left : Int} {F : List OrdR} {k : Nat} {x : OrdR} (hx : F[k]? = some x) :
    (leftM c left (F.take k) ≠ 0 → (meet c left F)[k]? = some (hitOf c (leftM c left (F.take k)) x)) ∧ (leftM c left (F.take k) = 0 → (meet c left F).length ≤ k) := by
  have hkl := (List.getElem?_eq_some_iff.1 hx).1
  have hsp := split_at hx
  have htk : (F.take k).length = k := by rw [List.length_take]; omega
  have hm : meet c left F = meet c left (F.take k) ++ meet c (leftM c left (F.take k)) (x :: F.drop (k + 1)) := by
    conv => lhs; rw [hsp]
    rw [meet_append]
  refine ⟨fun h => ?_, fun h => ?_⟩
  · have hl := meet_full h
    rw [hm, List.getElem?_append_right (by omega), hl, htk, Nat.sub_self]
    simp [meet, h]
  · rw [hm, h, meet_zero, List.append_nil]
    exact Nat.le_trans (meet_len _ _ _) (by omega)
theorem leftM_step {c left : Int} {F : List OrdR} {k : Nat} {x : OrdR} (hx : F[k]? = some x) : leftM c left (F.take (k + 1)) = if leftM c left (F.take k) = 0 then 0 else leftOf c (leftM c left (F.take k)) x := by
  rw [List.take_add_one, hx, Option.toList_some, leftM_append]
  by_cases h : leftM c left (F.take k) = 0
  · rw [if_pos h, h, leftM_zero]
  · rw [if_neg h, leftM_one _ _ _ h]
/-- What is traded: as much as others have, at most. -/
theorem traded_eq {c q : Int} {F : List OrdR} (h : 0 ≤ q) (hq : ∀ x ∈ F, 1 ≤ x.q) : q - leftM c q F = min q (lotsO c F) ∨ lotsO c F < 0 := by
  rw [leftM_lots h hq]
  omega
theorem lotsO_nonneg {c : Int} : ∀ {L : List OrdR}, (∀ x ∈ L, 1 ≤ x.q) → 0 ≤ lotsO c L
  | [], _ => Int.le_refl _
  | x :: t, h => by
    have e : lotsO c (x :: t) = if x.c = c then lotsO c t else x.q + lotsO c t := by
      unfold lotsO
      by_cases hc : x.c = c <;> simp [hc, sumQ_cons]
    have h1 := h x (by simp)
    have h2 := lotsO_nonneg (c := c) (L := t) (fun y hy => h y (by simp [hy]))
    rw [e]; split <;> omega
theorem lotsO_append (c : Int) (A B : List OrdR) : lotsO c (A ++ B) = lotsO c A + lotsO c B := by
  unfold lotsO
  rw [List.filter_append, sumQ_append]
/-- More is traded of a longer list, and for a greater quantity. -/
theorem traded_more {c q q' : Int} {F D : List OrdR} (h : 0 ≤ q) (h' : q ≤ q') (hq : ∀ x ∈ F ++ D, 1 ≤ x.q) : q - leftM c q F ≤ q' - leftM c q' (F ++ D) := by
  have hF : ∀ x ∈ F, 1 ≤ x.q := fun x hx => hq x (by simp [hx])
  have hD : ∀ x ∈ D, 1 ≤ x.q := fun x hx => hq x (by simp [hx])
  rw [leftM_lots h hF, leftM_lots (by omega) hq, lotsO_append]
  have h1 := lotsO_nonneg (c := c) hF
  have h2 := lotsO_nonneg (c := c) hD
  omega
/-- A greater quantity meets whom the lesser met: all but the last alike. -/
theorem meet_more {c : Int} : ∀ {F : List OrdR} {q q' : Int}, 0 ≤ q → q ≤ q' → (∀ x ∈ F, 1 ≤ x.q) →
    (meet c q F).length ≤ (meet c q' F).length ∧ ∀ k a, (meet c q F)[k]? = some a → ∃ b, (meet c q' F)[k]? = some b ∧ a.i = b.i ∧ a.p = b.p ∧ a.o = b.o ∧ a.q ≤ b.q ∧ (a.q ≠ b.q → (meet c q F).length ≤ k + 1)
  | [], _, _, _, _, _ => ⟨Nat.le_refl _, fun k a h => by simp [meet] at h⟩
  | x :: t, q, q', h, h', hq => by
    by_cases h0 : q = 0
    · subst h0
      rw [meet_zero]
      exact ⟨Nat.zero_le _, fun k a h => by simp at h⟩
    · have h0' : q' ≠ 0 := by omega
      have hx := hq x (by simp)
      simp only [meet, if_neg h0, if_neg h0']
      have hl := (leftOf_bd (c := c) h hx).1
      have hll : leftOf c q x ≤ leftOf c q' x := by unfold leftOf; split <;> omega
      obtain ⟨i1, i2⟩ := meet_more (c := c) (F := t) hl hll (fun y hy => hq y (by simp [hy]))
      refine ⟨by simp only [List.length_cons]; omega, fun k a ha => ?_⟩
      cases k with
      | zero =>
        have ha : hitOf c q x = a := by simpa using ha
        subst ha
        refine ⟨_, rfl, ?_⟩
        unfold hitOf
        by_cases hc : x.c = c
        · rw [if_pos hc, if_pos hc]
          exact ⟨rfl, rfl, rfl, Int.le_refl _, fun h => absurd rfl h⟩
        · rw [if_neg hc, if_neg hc]
          refine ⟨rfl, rfl, rfl, by simp only; omega, fun hne => ?_⟩
          have : leftOf c q x = 0 := by
            unfold leftOf
            rw [if_neg hc]
            simp only at hne
            omega
          rw [this, meet_zero]; simp
      | succ k =>
        obtain ⟨b, h1, h2, h3, h4, h5, h6⟩ := i2 k a (by simpa using ha)
        exact ⟨b, by simpa using h1, h2, h3, h4, h5, fun hne => by have := h6 hne; simp only [List.length_cons]; omega⟩
theorem meet_longer (c q : Int) (F D : List OrdR) : (meet c q F).length ≤ (meet c q (F ++ D)).length ∧ ∀ (k : Nat) (a : HitR), (meet c q F)[k]? = some a → (meet c q (F ++ D))[k]? = some a := by
  rw [meet_append]
  exact ⟨by simp, fun k a h => by rw [List.getElem?_append_left (List.getElem?_eq_some_iff.1 h).1]; exact h⟩

/-! ### Facing -/
theorem facL_wider {sg lim lim' : Int} {L : List OrdR} (hs : L.Pairwise fun x y => sg * x.p ≤ sg * y.p) (h : lim' = 0 ∨ (lim ≠ 0 ∧ sg * lim ≤ sg * lim')) : ∃ D, facL sg lim' L = facL sg lim L ++ D := by
  obtain ⟨D, e, h1, h2⟩ := fac_parts (lim := lim) hs
  rcases h with h0 | ⟨h0, h0'⟩
  · subst h0
    refine ⟨D, ?_⟩
    conv => lhs; unfold facL
    rw [if_pos rfl]; exact e
  · by_cases hz : lim' = 0
    · subst hz
      refine ⟨D, ?_⟩
      conv => lhs; unfold facL
      rw [if_pos rfl]; exact e
    · refine ⟨D.filter fun o => decide (sg * o.p ≤ sg * lim'), ?_⟩
      have : facL sg lim' L = L.filter fun o => decide (sg * o.p ≤ sg * lim') := by unfold facL; rw [if_neg hz]
      rw [this]
      conv => lhs; rw [e]
      rw [List.filter_append]
      congr 1
      exact List.filter_eq_self.2 fun x hx => by have := h1 h0 x hx; simp; omega
theorem facL_sub (sg lim : Int) (L : List OrdR) : (facL sg lim L).Sublist L := by
  unfold facL
  split
  · exact List.Sublist.refl _
  · exact List.filter_sublist
theorem facO_sdN (l : Bool → List OrdR) (q : Bool) (lim : Int) : facO l (sdN q) lim = facL (sgn (!q)) lim (l (!q)) := by cases q <;> rfl
end Go.Proofs.Ytilngakgofjmpaa

/- Plan: plain laws: step by step through those that are met; what has gone. No condition. -/
namespace Go.Proofs.Ytilngakgofjmpaa
set_option linter.unusedVariables false
set_option linter.unusedSimpArgs false
open Go.RowKit Go.Shelf
open Od (OrdR)

theorem goneI_zero (c : Int) (L : List OrdR) : goneI c 0 L = [] := by cases L <;> simp [goneI]
theorem goneI_append (c : Int) : ∀ (A B : List OrdR) (left : Int), goneI c left (A ++ B) = goneI c left A ++ goneI c (leftM c left A) B
  | [], B, left => rfl
  | x :: A, B, left => by
    simp only [List.cons_append, goneI, leftM]
    split
    · rw [goneI_zero]; rfl
    · rw [goneI_append c A B, List.append_assoc]
theorem take_snoc {F : List OrdR} {k : Nat} {x : OrdR} (hx : F[k]? = some x) : F.take (k + 1) = F.take k ++ [x] := by rw [List.take_add_one, hx]; rfl
/-- Met at a place: the hit, and what is left ahead of it. -/
theorem met_at {c q : Int} {F : List OrdR} {k : Nat} {h : HitR} (hh : (meet c q F)[k]? = some h) : ∃ x, F[k]? = some x ∧ leftM c q (F.take k) ≠ 0 ∧ h = hitOf c (leftM c q (F.take k)) x := by
  have hk := (List.getElem?_eq_some_iff.1 hh).1
  have hkF : k < F.length := Nat.lt_of_lt_of_le hk (meet_len _ _ _)
  have hx : F[k]? = some F[k] := List.getElem?_eq_getElem hkF
  obtain ⟨h1, h2⟩ := meet_at (c := c) (left := q) hx
  refine ⟨_, hx, fun e => ?_, ?_⟩
  · have := h2 e; omega
  · have hne : leftM c q (F.take k) ≠ 0 := fun e => by have := h2 e; omega
    have := h1 hne
    rw [hh] at this
    injection this
theorem goneI_step {c q : Int} {F : List OrdR} {k : Nat} {x : OrdR} (hx : F[k]? = some x) (h : leftM c q (F.take k) ≠ 0) :
    goneI c q (F.take (k + 1)) = goneI c q (F.take k) ++ if (hitOf c (leftM c q (F.take k)) x).q = x.q then [x.i] else [] := by
  rw [take_snoc hx, goneI_append]
  simp only [goneI, if_neg h, List.append_nil]
theorem met_end {c q : Int} {F : List OrdR} : leftM c q (F.take (meet c q F).length) = 0 ∨ (meet c q F).length = F.length := by
  by_cases hl : (meet c q F).length < F.length
  · have hx : F[(meet c q F).length]? = some F[(meet c q F).length] := List.getElem?_eq_getElem hl
    refine .inl (Classical.byContradiction fun hne => ?_)
    have := (meet_at (c := c) (left := q) hx).1 hne
    have := (List.getElem?_eq_some_iff.1 this).1
    omega
  · exact .inr (by have := meet_len c F q; omega)
theorem goneI_all (c q : Int) (F : List OrdR) : goneI c q (F.take (meet c q F).length) = goneI c q F := by
  rcases met_end (c := c) (q := q) (F := F) with h | h
  · conv => rhs; rw [← List.take_append_drop (meet c q F).length F]
    rw [goneI_append, h, goneI_zero, List.append_nil]
  · rw [h, List.take_length]
theorem meet_step {c q : Int} {F : List OrdR} {k : Nat} {x : OrdR} (hx : F[k]? = some x) (h : leftM c q (F.take k) ≠ 0) :
    meet c q (F.take (k + 1)) = meet c q (F.take k) ++ [hitOf c (leftM c q (F.take k)) x] ∧ leftM c q (F.take (k + 1)) = leftOf c (leftM c q (F.take k)) x ∧ goneM c q (F.take (k + 1)) = goneM c q (F.take k) + if (hitOf c (leftM c q (F.take k)) x).q = x.q then 1 else 0 := by
  rw [take_snoc hx, meet_append, leftM_append, goneM_append, meet_one _ _ _ h, leftM_one _ _ _ h, goneM_one _ _ _ h]
  exact ⟨rfl, rfl, rfl⟩
/-- Once nothing is left. -/
theorem met_done {c q : Int} {F : List OrdR} {k : Nat} (h : leftM c q (F.take k) = 0) : meet c q F = meet c q (F.take k) ∧ leftM c q F = 0 ∧ goneM c q F = goneM c q (F.take k) := by
  have := meet_done h (F.drop k)
  rw [List.take_append_drop] at this
  exact this
/-- An order that has not gone is still there. -/
theorem getL_without {l : Bool → List OrdR} (hn : ((l false ++ l true).map OrdR.i).Nodup) {q : Bool} {x : OrdR} (hx : x ∈ l q) {ids : List Int} (h : x.i ∉ ids) : getL (without l ids) x.i = some x := by
  refine getL_mem (q := q) (hn.sublist ?_) (List.mem_filter.2 ⟨hx, by simpa using h⟩)
  exact (List.Sublist.append List.filter_sublist List.filter_sublist).map _
theorem not_gone {c q : Int} {F : List OrdR} (hn : (F.map OrdR.i).Nodup) {k : Nat} {x : OrdR} (hx : F[k]? = some x) : x.i ∉ goneI c q (F.take k) := fun hm => by
  have h1 := (goneI_sub c (F.take k) q).subset hm
  obtain ⟨y, hy, e⟩ := List.mem_map.1 h1
  rw [split_at hx, List.map_append, List.map_cons] at hn
  exact (List.nodup_append.1 hn).2.2 _ (List.mem_map.2 ⟨y, hy, rfl⟩) _ (by simp) e
end Go.Proofs.Ytilngakgofjmpaa

/- Plan: what Of and Amend answer, as the code reckons it and as the document does: alike. Conditions: a book's orders. -/
namespace Go.Proofs.Ytilngakgofjmpaa
set_option linter.unusedVariables false
set_option linter.unusedSimpArgs false
open Go.RowKit Go.Shelf
open Od (OrdR)

def planC (most room : Nat) (l : Bool → List OrdR) (e : EnR) : PlanR := if mayE e then planR e (facO l e.s e.p) (fun g => fitC most room l e.s e.p zOrd g) else noPlan 1
def amendC (most room : Nat) (l : Bool → List OrdR) (k p q : Int) : PlanR := match getL l k with
  | none => noPlan 63
  | some o => if mayE ⟨o.c, 1, o.s, p, q⟩ then planR ⟨o.c, 1, o.s, p, q⟩ (facO l o.s p) (fun g => fitC most room l o.s p o g) else noPlan 1
def planD (most room : Nat) (l : Bool → List OrdR) (e : EnR) : PlanR := planR e (facO l e.s e.p) (fun _ => fitD most room l e.s e.p (goneI e.c e.q (facO l e.s e.p)))
def ofD (most room : Nat) (l : Bool → List OrdR) (e : EnR) : PlanR := if mayE e then planD most room l e else noPlan 1
def amendD (most room : Nat) (l : Bool → List OrdR) (k p q : Int) : PlanR := match getL l k with
  | none => noPlan 63
  | some o => if (1 ≤ p ∧ p ≤ 1000000000) ∧ 1 ≤ q ∧ q ≤ 1000000000 then planD most room (remS l k) ⟨o.c, 1, o.s, p, q⟩ else noPlan 1

theorem planR_fit {e : EnR} {F : List OrdR} {f g : Nat → Int} (h : (e.k = 1 ∨ e.k = 5) → f (goneM e.c e.q F) = g (goneM e.c e.q F)) : planR e F f = planR e F g := by
  unfold planR
  by_cases hk : e.k = 1 ∨ e.k = 5
  · rw [h hk]
  · simp only [if_neg hk]
theorem mayE_parts {e : EnR} (h : mayE e = true) : (1 ≤ e.k ∧ e.k ≤ 5) ∧ (if e.k = 2 then e.p = 0 else 1 ≤ e.p ∧ e.p ≤ 1000000000) ∧ (e.s = 1 ∨ e.s = 2) ∧ (1 ≤ e.c ∧ e.c ≤ 8) ∧ 1 ≤ e.q ∧ e.q ≤ 1000000000 := of_decide_eq_true h
theorem mayE_side {e : EnR} (h : mayE e = true) : ∃ q, e.s = sdN q := by
  rcases (mayE_parts h).2.2.1 with h | h
  · exact ⟨false, h⟩
  · exact ⟨true, h⟩
theorem fac_ids (l : Bool → List OrdR) (q : Bool) (lim c x : Int) : (goneI c x (facO l (sdN q) lim)).Sublist ((l (!q)).map OrdR.i) := by
  rw [facO_sdN]
  exact (goneI_sub _ _ _).trans ((facL_sub _ _ _).map _)
theorem ofC_D {most room : Nat} {l : Bool → List OrdR} (g : Good most room l) (e : EnR) : planC most room l e = ofD most room l e := by
  unfold planC ofD
  by_cases hm : mayE e = true
  · rw [if_pos hm, if_pos hm]
    obtain ⟨q, hq⟩ := mayE_side hm
    have hp := (mayE_parts hm).2.1
    refine planR_fit fun hk => ?_
    rw [if_neg (by omega)] at hp
    rw [← goneI_len]
    rw [hq]
    exact fit_zero g q hp (fac_ids l q _ _ _) rfl
  · rw [if_neg hm, if_neg hm]
theorem getL_side {l : Bool → List OrdR} {k : Int} {o : OrdR} (h : getL l k = some o) : o.i = k ∧ ∃ q, o ∈ l q := by
  unfold getL at h
  have h1 := List.find?_some h
  have h2 := List.mem_of_find?_eq_some h
  refine ⟨by simpa using h1, ?_⟩
  rcases List.mem_append.1 h2 with h | h
  · exact ⟨false, h⟩
  · exact ⟨true, h⟩
theorem remS_other {l : Bool → List OrdR} (hn : ((l false ++ l true).map OrdR.i).Nodup) {q : Bool} {o : OrdR} (ho : o ∈ l q) : remS l o.i (!q) = l (!q) := by
  unfold remS
  exact delL_not fun x hx => ids_ne hn (q := q) (k := !q) (by cases q <;> decide) ho hx
theorem amendC_D {most room : Nat} {l : Bool → List OrdR} (g : Good most room l) (k p x : Int) : amendC most room l k p x = amendD most room l k p x := by
  unfold amendC amendD
  cases hg : getL l k with
  | none => rfl
  | some o =>
    simp only
    obtain ⟨hi, q, ho⟩ := getL_side hg
    have hs := g.side q o ho
    obtain ⟨_, _, h1, h2, _⟩ := g.ok q o ho
    have hme : mayE ⟨o.c, 1, o.s, p, x⟩ = decide ((1 ≤ p ∧ p ≤ 1000000000) ∧ 1 ≤ x ∧ x ≤ 1000000000) := by
      unfold mayE
      have h3 : o.s = 1 ∨ o.s = 2 := by rw [hs]; cases q <;> simp [sdN]
      simp [h1, h2, h3]
    rw [hme]
    by_cases hb : (1 ≤ p ∧ p ≤ 1000000000) ∧ 1 ≤ x ∧ x ≤ 1000000000
    · rw [if_pos (decide_eq_true hb), if_pos hb]
      unfold planD
      simp only
      have hf : facO (remS l k) o.s p = facO l o.s p := by rw [hs, facO_sdN, facO_sdN, ← hi, remS_other g.ids ho]
      rw [hf]
      refine planR_fit fun _ => ?_
      simp only
      rw [← goneI_len, hs, ← hi]
      exact fit_out g q hb.1 (fac_ids l q _ _ _) ho
    · rw [if_neg (by simpa using hb), if_neg hb]
end Go.Proofs.Ytilngakgofjmpaa
