/- The book: Prices, Fits. Conditions: a book as its New lays it. -/
import Derived.Test.YtkglplngnjgnhaaBk1
namespace Go.Proofs.Ytkglplngnjgnhaa
set_option linter.unusedVariables false
set_option linter.unusedSimpArgs false
open Go.RowKit
open Od (OrdR Lay FreeN Blk4)

/-- A side's prices, each once. -/
def pricesL : List OrdR → List Int
  | [] => []
  | o :: t => match pricesL t with
    | [] => [o.p]
    | p :: ps => if p = o.p then p :: ps else o.p :: p :: ps
theorem pricesL_group {p : Int} {Y : List OrdR} (hY : ∀ q ps, pricesL Y = q :: ps → q ≠ p) : ∀ X : List OrdR, X ≠ [] → (∀ o ∈ X, o.p = p) → pricesL (X ++ Y) = p :: pricesL Y := by
  intro X
  induction X with
  | nil => intro h; exact absurd rfl h
  | cons o t ih =>
    intro _ hX
    have ho := hX o (by simp)
    cases t with
    | nil =>
      show (match pricesL Y with | [] => [o.p] | q :: ps => if q = o.p then q :: ps else o.p :: q :: ps) = _
      cases e : pricesL Y with
      | nil => simp [ho]
      | cons q ps =>
        have := hY q ps e
        simp only [ho]
        rw [if_neg this]
    | cons o2 t2 =>
      have := ih (by simp) (fun x hx => hX x (by simp [hx]))
      show (match pricesL ((o2 :: t2) ++ Y) with | [] => [o.p] | q :: ps => if q = o.p then q :: ps else o.p :: q :: ps) = _
      rw [this]
      simp only
      rw [if_pos ho.symm]
theorem prices_nums {side sg : Int} {first most : Nat} {R : Nat → List Nat} {V : Nat → OrdR} : ∀ {L : List (Int × Nat)}, Half side first most L R V → Srt sg L → pricesL ((nums first L R).map V) = L.map Prod.fst := by
  intro L h
  have hne := h.ne
  have hpr := h.pr
  clear h
  induction L with
  | nil => intro _; rfl
  | cons x t ih =>
    intro hs
    have s2 := List.pairwise_cons.1 hs
    have IH := ih (fun y hy => hne y (by simp [hy])) (fun y hy => hpr y (by simp [hy])) s2.2
    rw [nums_cons, List.map_append, pricesL_group (p := x.1), IH, List.map_cons]
    · intro q ps e
      rw [IH] at e
      cases t with
      | nil => cases e
      | cons y r =>
        rw [List.map_cons] at e
        injection e with e1 e2
        have := s2.1 y (by simp)
        rw [← e1]
        intro e3
        rw [e3] at this
        omega
    · simpa using hne x (by simp)
    · intro o ho
      obtain ⟨n, hn, rfl⟩ := List.mem_map.1 ho
      exact (hpr x (by simp) n hn).1

section
variable {w : World} {b : Nat} {bs gu : Bool → Nat} {hv : Bool → Value} {ba gl gr gf bm most room : Nat} {L : Bool → List (Int × Nat)} {R : Nat → List Nat} {V : Nat → OrdR} {F : Int → Option Int} {l : Bool → List OrdR}
theorem BookM.prices (h : BookM w b bs gu hv ba gl gr gf bm most room L R V F l) (q : Bool) : pricesL (l q) = (L q).map Prod.fst := by
  rw [h.rep.e q]; exact prices_nums (h.rep.half q) (h.sd q).srt
theorem has_prices {p : Int} {L : List (Int × Nat)} : has p L = true ↔ p ∈ L.map Prod.fst := by
  rw [has_iff, List.mem_map]

theorem k_prices_no (s : Int) (hs : sidedB s = false) : Calls Try.prog 74 #[.pointer (some ⟨b, 0, none⟩), .int .u8 s] w fun e w' => e = .returned (.int .i64 0) ∧ w = w' := by
  have H := Lib.hid (k_sided s w)
  rw [hs] at H
  clear hs
  go_enter Try.func74, Try.ntmps74
  go_wp2_with fail
  refine H.out.mono ?_
  rintro e w1 ⟨rfl, rfl⟩
  go_wp2_with fail
  go_returns
  exact ⟨rfl, rfl⟩
set_option maxRecDepth 100000 in
set_option maxHeartbeats 1000000 in
theorem k_prices (h : BookM w b bs gu hv ba gl gr gf bm most room L R V F l) (q : Bool) : Calls Try.prog 74 #[.pointer (some ⟨b, 0, none⟩), .int .u8 (sdN q)] w fun e w' => e = .returned (.int .i64 ((most - (L q).length : Nat) : Int)) ∧ Only (fun _ => False) w w' := by
  have H := Lib.hid (k_sided (sdN q) w)
  rw [sided_sdN] at H
  have HH := Lib.hid fun W (o : Only (fun _ => False) w W) => k_half (h.only o (fun _ _ => id)) q
  have HL := Lib.hid fun W (o : Only (fun _ => False) w W) => Go.Proofs.Ytkglplngnjgnhaa.s_len (SideU.only (h.sd q) o (fun _ _ => id))
  have hfd := fieldHalf (.pointer (some ⟨bs q, 0, none⟩)) (.int .i64 (fst most q : Nat))
  have c3 := h.c3.cell
  have z0 := cell_lt c3
  have hlen := (h.sd q).len
  have hsm := h.mostLe
  obtain ⟨k, hk⟩ : ∃ k, k = (L q).length := ⟨_, rfl⟩
  rw [← hk] at HL hlen ⊢
  have e2 : IntKind.i64.wrap ((most - k : Nat) : Int) = ((most - k : Nat) : Int) := by rw [IntKind.wrap_i64]; omega
  have e3 : (most : Int) - (k : Int) = ((most - k : Nat) : Int) := by omega
  generalize sdN q = s at *
  generalize bs q = b1 at *
  generalize fst most q = fs at *
  have KEEP := fun W (o : Only (fun _ => False) w W) => Lib.hid (show W.cell? ⟨b, 3, none⟩ = some (.int .i64 (most : Int)) from o.cell c3 id)
  clear h hk
  go_enter Try.func74, Try.ntmps74
  go_wp2_with fail
  refine H.out.mono ?_
  rintro e w1 ⟨rfl, rfl⟩
  go_wp2_with fail
  go_region_held3 (fun W => W.cell? ⟨b, 3, none⟩ = some (.int .i64 (most : Int)))
    (first | (refine (KEEP _ ?_).out; (repeat' (first | (with_reducible exact Only.refl _ _) | (with_reducible assumption) | (refine Only.of_none ?_; with_reducible assumption) | (with_reducible refine Only.drewN ?_ _) | (with_reducible refine Only.drew ?_) | (with_reducible refine Only.alloc ?_ _) | (with_reducible refine Only.setCell ?_ ?_ _) | (with_reducible refine Only.then0 ?_ (by with_reducible assumption)) | (with_reducible refine Only.thenN ?_ (by with_reducible assumption) ?_) | (with_reducible refine Only.trans ?_ (by with_reducible assumption)) | (refine .inl ?_; first | rfl | (simp; done) | (simp [Ar.blk]; done)) | (refine .inr ?_; first | omega | (simp; done) | (simp; omega) | exact Only.size (by with_reducible assumption) | (refine Nat.le_trans (Only.size (by with_reducible assumption)) ?_; simp; done)))); done))
    (first | (go_at_call 57; refine (HH.out _ (by repeat' (first | (with_reducible exact Only.refl _ _) | (with_reducible assumption) | (refine Only.of_none ?_; with_reducible assumption) | (with_reducible refine Only.drewN ?_ _) | (with_reducible refine Only.drew ?_) | (with_reducible refine Only.alloc ?_ _) | (with_reducible refine Only.setCell ?_ ?_ _) | (with_reducible refine Only.then0 ?_ (by with_reducible assumption)) | (with_reducible refine Only.thenN ?_ (by with_reducible assumption) ?_) | (with_reducible refine Only.trans ?_ (by with_reducible assumption)) | (refine .inl ?_; first | rfl | (simp; done) | (simp [Ar.blk]; done)) | (refine .inr ?_; first | omega | (simp; done) | (simp; omega) | exact Only.size (by with_reducible assumption) | (refine Nat.le_trans (Only.size (by with_reducible assumption)) ?_; simp; done))))).mono ?_; rintro e w7 ⟨rfl, o7⟩) | (go_at_call 13; refine (HL.out _ (by repeat' (first | (with_reducible exact Only.refl _ _) | (with_reducible assumption) | (refine Only.of_none ?_; with_reducible assumption) | (with_reducible refine Only.drewN ?_ _) | (with_reducible refine Only.drew ?_) | (with_reducible refine Only.alloc ?_ _) | (with_reducible refine Only.setCell ?_ ?_ _) | (with_reducible refine Only.then0 ?_ (by with_reducible assumption)) | (with_reducible refine Only.thenN ?_ (by with_reducible assumption) ?_) | (with_reducible refine Only.trans ?_ (by with_reducible assumption)) | (refine .inl ?_; first | rfl | (simp; done) | (simp [Ar.blk]; done)) | (refine .inr ?_; first | omega | (simp; done) | (simp; omega) | exact Only.size (by with_reducible assumption) | (refine Nat.le_trans (Only.size (by with_reducible assumption)) ?_; simp; done))))).mono ?_; rintro e w8 ⟨rfl, rfl⟩))
  all_goals
    go_wp2_with fail
    go_returns
    exact ⟨rfl, by repeat' (first | (with_reducible exact Only.refl _ _) | (with_reducible assumption) | (refine Only.of_none ?_; with_reducible assumption) | (with_reducible refine Only.drewN ?_ _) | (with_reducible refine Only.drew ?_) | (with_reducible refine Only.alloc ?_ _) | (with_reducible refine Only.setCell ?_ ?_ _) | (with_reducible refine Only.then0 ?_ (by with_reducible assumption)) | (with_reducible refine Only.thenN ?_ (by with_reducible assumption) ?_) | (with_reducible refine Only.trans ?_ (by with_reducible assumption)) | (refine .inl ?_; first | rfl | (simp; done) | (simp [Ar.blk]; done)) | (refine .inr ?_; first | omega | (simp; done) | (simp; omega) | exact Only.size (by with_reducible assumption) | (refine Nat.le_trans (Only.size (by with_reducible assumption)) ?_; simp; done)))⟩

/-- What forbids to lay an order of a side at a price down. -/
def fitsE (most room : Nat) (l : Bool → List OrdR) (q : Bool) (p : Int) : Int :=
  if ¬ (1 ≤ p ∧ p ≤ 1000000000) then 1 else if (l false).length + (l true).length = room then 60 else if p ∈ pricesL (l q) then 0 else if (pricesL (l q)).length = most then 61 else 0

theorem k_fits_side (h : BookM w b bs gu hv ba gl gr gf bm most room L R V F l) (s p : Int) (hs : sidedB s = false) : Calls Try.prog 53 #[.pointer (some ⟨b, 0, none⟩), .int .u8 s, .int .i64 p] w fun e w' => e = .returned (.int .i64 1) ∧ w = w' := by
  have H := Lib.hid (k_sided s w)
  rw [hs] at H
  clear hs
  go_enter Try.func53, Try.ntmps53
  go_wp2_with fail
  refine H.out.mono ?_
  rintro e w1 ⟨rfl, rfl⟩
  go_wp2_with fail
  go_returns
  exact ⟨rfl, rfl⟩

set_option maxRecDepth 100000 in
set_option maxHeartbeats 2000000 in
theorem k_fits (h : BookM w b bs gu hv ba gl gr gf bm most room L R V F l) (q : Bool) (p : Int) :
    Calls Try.prog 53 #[.pointer (some ⟨b, 0, none⟩), .int .u8 (sdN q), .int .i64 p] w fun e w' => e = .returned (.int .i64 (fitsE most room l q p)) ∧ Only (fun _ => False) w w' := by
  have H := Lib.hid (k_sided (sdN q) w)
  rw [sided_sdN] at H
  have HW := Lib.hid (k_within p 1000000000 w)
  unfold fitsE
  by_cases h1 : 1 ≤ p ∧ p ≤ 1000000000
  · rw [if_neg (by simpa using h1)]
    have e1 : inB p 1000000000 = true := by simpa [inB] using h1
    rw [e1] at HW
    have HR := Lib.hid (k_room h)
    have hn := h.numLe
    by_cases h2 : (l false).length + (l true).length = room
    · rw [if_pos h2]
      rw [show room - ((l false).length + (l true).length) = 0 by omega] at HR
      generalize sdN q = s at *
      clear h h1 h2 e1 hn
      go_enter Try.func53, Try.ntmps53
      go_wp2_with fail
      refine H.out.mono ?_
      rintro e w1 ⟨rfl, rfl⟩
      go_wp2_with fail
      refine HW.out.mono ?_
      rintro e w1 ⟨rfl, rfl⟩
      go_wp2_with fail
      refine HR.out.mono ?_
      rintro e w1 ⟨rfl, o1⟩
      go_wp2_with fail
      go_returns
      exact ⟨rfl, o1⟩
    · rw [if_neg h2]
      obtain ⟨k, hk⟩ : ∃ k, k = room - ((l false).length + (l true).length) := ⟨_, rfl⟩
      rw [← hk] at HR
      have t1 : (((k : Nat) : Int) == 0) = false := by simp; omega
      have HH := Lib.hid fun W (o : Only (fun _ => False) w W) => k_half (h.only o (fun _ _ => id)) q
      have hpr := h.prices q
      have hlen : (pricesL (l q)).length = (L q).length := by rw [hpr, List.length_map]
      cases hp : has p (L q) with
      | true =>
        obtain ⟨⟨p', r⟩, hx, e⟩ := has_iff.1 hp
        simp only at e
        subst e
        rw [if_pos (by rw [hpr]; exact has_prices.1 hp)]
        have HF := Lib.hid fun W (o : Only (fun _ => False) w W) => Go.Proofs.Ytkglplngnjgnhaa.s_find (SideU.only (h.sd q) o (fun _ _ => id)) p' r hx
        have t2 : decide ((r : Int) < 0) = false := by simp
        generalize sdN q = s at *
        generalize bs q = b1 at *
        generalize fst most q = fs at *
        clear h h1 h2 e1 hn hk hpr hlen hp hx
        go_enter Try.func53, Try.ntmps53
        go_wp2_with fail
        refine H.out.mono ?_
        rintro e w1 ⟨rfl, rfl⟩
        go_wp2_with fail
        refine HW.out.mono ?_
        rintro e w1 ⟨rfl, rfl⟩
        go_wp2_with fail
        refine HR.out.mono ?_
        rintro e w1 ⟨rfl, o1⟩
        go_wp2_with fail
        refine (HH.out _ o1).mono ?_
        rintro e w2 ⟨rfl, o2⟩
        have OO : Only (fun _ => False) w (w2.alloc (.cells #[.pointer (some ⟨b1, 0, none⟩), .int .i64 (fs : Nat)] 123)) := (o1.trans o2).alloc _
        go_wp2_with fail
        refine (HF.out _ (by repeat' (first | (with_reducible exact Only.refl _ _) | (with_reducible assumption) | (refine Only.of_none ?_; with_reducible assumption) | (with_reducible refine Only.drewN ?_ _) | (with_reducible refine Only.drew ?_) | (with_reducible refine Only.alloc ?_ _) | (with_reducible refine Only.setCell ?_ ?_ _) | (with_reducible refine Only.then0 ?_ (by with_reducible assumption)) | (with_reducible refine Only.thenN ?_ (by with_reducible assumption) ?_) | (with_reducible refine Only.trans ?_ (by with_reducible assumption)) | (refine .inl ?_; first | rfl | (simp; done) | (simp [Ar.blk]; done)) | (refine .inr ?_; first | omega | (simp; done) | (simp; omega) | exact Only.size (by with_reducible assumption) | (refine Nat.le_trans (Only.size (by with_reducible assumption)) ?_; simp; done))))).mono ?_
        rintro e w3 ⟨rfl, o3⟩
        go_wp2_with fail
        go_returns
        exact ⟨rfl, by repeat' (first | (with_reducible exact Only.refl _ _) | (with_reducible assumption) | (refine Only.of_none ?_; with_reducible assumption) | (with_reducible refine Only.drewN ?_ _) | (with_reducible refine Only.drew ?_) | (with_reducible refine Only.alloc ?_ _) | (with_reducible refine Only.setCell ?_ ?_ _) | (with_reducible refine Only.then0 ?_ (by with_reducible assumption)) | (with_reducible refine Only.thenN ?_ (by with_reducible assumption) ?_) | (with_reducible refine Only.trans ?_ (by with_reducible assumption)) | (refine .inl ?_; first | rfl | (simp; done) | (simp [Ar.blk]; done)) | (refine .inr ?_; first | omega | (simp; done) | (simp; omega) | exact Only.size (by with_reducible assumption) | (refine Nat.le_trans (Only.size (by with_reducible assumption)) ?_; simp; done)))⟩
      | false =>
        rw [if_neg (by rw [hpr]; exact fun hm => by rw [has_prices.2 hm] at hp; cases hp)]
        have HF := Lib.hid fun W (o : Only (fun _ => False) w W) => Go.Proofs.Ytkglplngnjgnhaa.s_find_no (SideU.only (h.sd q) o (fun _ _ => id)) p hp
        have HP := Lib.hid fun W (o : Only (fun _ => False) w W) => k_prices (h.only o (fun _ _ => id)) q
        rw [hlen]
        have hle := (h.sd q).len
        obtain ⟨m, hm⟩ : ∃ m, m = most - (L q).length := ⟨_, rfl⟩
        have t3 : (((m : Nat) : Int) == 0) = decide ((L q).length = most) := by
          rw [Bool.eq_iff_iff]
          simp
          omega
        rw [← hm] at HP
        have e4 : (if (L q).length = most then (61 : Int) else 0) = if decide ((L q).length = most) = true then 61 else 0 := by simp
        rw [e4]
        generalize decide ((L q).length = most) = full at *
        generalize sdN q = s at *
        generalize bs q = b1 at *
        generalize fst most q = fs at *
        clear h h1 h2 e1 hn hk hpr hlen hp hle hm e4
        cases full
        all_goals
          go_enter Try.func53, Try.ntmps53
          go_wp2_with fail
          refine H.out.mono ?_
          rintro e w1 ⟨rfl, rfl⟩
          go_wp2_with fail
          refine HW.out.mono ?_
          rintro e w1 ⟨rfl, rfl⟩
          go_wp2_with fail
          refine HR.out.mono ?_
          rintro e w1 ⟨rfl, o1⟩
          go_wp2_with fail
          refine (HH.out _ o1).mono ?_
          rintro e w2 ⟨rfl, o2⟩
          go_wp2_with fail
          refine (HF.out _ (by repeat' (first | (with_reducible exact Only.refl _ _) | (with_reducible assumption) | (refine Only.of_none ?_; with_reducible assumption) | (with_reducible refine Only.drewN ?_ _) | (with_reducible refine Only.drew ?_) | (with_reducible refine Only.alloc ?_ _) | (with_reducible refine Only.setCell ?_ ?_ _) | (with_reducible refine Only.then0 ?_ (by with_reducible assumption)) | (with_reducible refine Only.thenN ?_ (by with_reducible assumption) ?_) | (with_reducible refine Only.trans ?_ (by with_reducible assumption)) | (refine .inl ?_; first | rfl | (simp; done) | (simp [Ar.blk]; done)) | (refine .inr ?_; first | omega | (simp; done) | (simp; omega) | exact Only.size (by with_reducible assumption) | (refine Nat.le_trans (Only.size (by with_reducible assumption)) ?_; simp; done))))).mono ?_
          rintro e w3 ⟨rfl, o3⟩
          go_wp2_with fail
          refine (HP.out _ (by repeat' (first | (with_reducible exact Only.refl _ _) | (with_reducible assumption) | (refine Only.of_none ?_; with_reducible assumption) | (with_reducible refine Only.drewN ?_ _) | (with_reducible refine Only.drew ?_) | (with_reducible refine Only.alloc ?_ _) | (with_reducible refine Only.setCell ?_ ?_ _) | (with_reducible refine Only.then0 ?_ (by with_reducible assumption)) | (with_reducible refine Only.thenN ?_ (by with_reducible assumption) ?_) | (with_reducible refine Only.trans ?_ (by with_reducible assumption)) | (refine .inl ?_; first | rfl | (simp; done) | (simp [Ar.blk]; done)) | (refine .inr ?_; first | omega | (simp; done) | (simp; omega) | exact Only.size (by with_reducible assumption) | (refine Nat.le_trans (Only.size (by with_reducible assumption)) ?_; simp; done))))).mono ?_
          rintro e w4 ⟨rfl, o4⟩
          go_wp2_with fail
          go_returns
          exact ⟨rfl, by repeat' (first | (with_reducible exact Only.refl _ _) | (with_reducible assumption) | (refine Only.of_none ?_; with_reducible assumption) | (with_reducible refine Only.drewN ?_ _) | (with_reducible refine Only.drew ?_) | (with_reducible refine Only.alloc ?_ _) | (with_reducible refine Only.setCell ?_ ?_ _) | (with_reducible refine Only.then0 ?_ (by with_reducible assumption)) | (with_reducible refine Only.thenN ?_ (by with_reducible assumption) ?_) | (with_reducible refine Only.trans ?_ (by with_reducible assumption)) | (refine .inl ?_; first | rfl | (simp; done) | (simp [Ar.blk]; done)) | (refine .inr ?_; first | omega | (simp; done) | (simp; omega) | exact Only.size (by with_reducible assumption) | (refine Nat.le_trans (Only.size (by with_reducible assumption)) ?_; simp; done)))⟩
  · rw [if_pos (by simpa using h1)]
    have e1 : inB p 1000000000 = false := by simpa [inB] using h1
    rw [e1] at HW
    generalize sdN q = s at *
    clear h h1 e1
    go_enter Try.func53, Try.ntmps53
    go_wp2_with fail
    refine H.out.mono ?_
    rintro e w1 ⟨rfl, rfl⟩
    go_wp2_with fail
    refine HW.out.mono ?_
    rintro e w1 ⟨rfl, rfl⟩
    go_wp2_with fail
    go_returns
    exact ⟨rfl, by repeat' (first | (with_reducible exact Only.refl _ _) | (with_reducible assumption) | (refine Only.of_none ?_; with_reducible assumption) | (with_reducible refine Only.drewN ?_ _) | (with_reducible refine Only.drew ?_) | (with_reducible refine Only.alloc ?_ _) | (with_reducible refine Only.setCell ?_ ?_ _) | (with_reducible refine Only.then0 ?_ (by with_reducible assumption)) | (with_reducible refine Only.thenN ?_ (by with_reducible assumption) ?_) | (with_reducible refine Only.trans ?_ (by with_reducible assumption)) | (refine .inl ?_; first | rfl | (simp; done) | (simp [Ar.blk]; done)) | (refine .inr ?_; first | omega | (simp; done) | (simp; omega) | exact Only.size (by with_reducible assumption) | (refine Nat.le_trans (Only.size (by with_reducible assumption)) ?_; simp; done)))⟩
end
end Go.Proofs.Ytkglplngnjgnhaa
