/- LevelsDoes: a side and the document's beside it: each call is answered alike by both. Conditions: both as their News lay them, and since called alike. -/
import Derived.Test.YtkglplngnjgnhaaLup
namespace Go.Proofs.Ytkglplngnjgnhaa
set_option linter.unusedVariables false
set_option linter.unusedSimpArgs false
open Go.RowKit

/-- Both lie there, and hold the same; their blocks are apart, below N, and of a kind Z. -/
def Pair (Z : Nat → Prop) (B0 b gu rb most : Nat) (sd sg : Int) (N : Nat) (w : World) : Prop :=
  B0 ≤ w.heap.size ∧ ∃ hv hr L, SideAt w b gu most sg hv L ∧ R5At w rb sd most sg hr L ∧ (∀ i, SdB b gu hv i → Z i ∧ i < N) ∧ (∀ i, R5B rb hr i → Z i) ∧ (∀ i, SdB b gu hv i → ¬ R5B rb hr i)

/-- A call of the one, and then a call of the other, answer alike. -/
def Two (Z : Nat → Prop) (N : Nat) (f1 f2 : Nat) (a1 a2 : Array Value) (v : Value) (P : World → Prop) (w : World) : Prop :=
  Calls Try.prog f1 a1 w fun e w1 => e = .returned v ∧ Only (fun i => Z i ∧ i < N) w w1 ∧ Calls Try.prog f2 a2 w1 fun e w2 => e = .returned v ∧ P w2 ∧ Only Z w1 w2

section
variable {Z : Nat → Prop} {B0 b gu rb most : Nat} {sd sg : Int} {N : Nat}
theorem Pair.keep {w w' : World} (h : Pair Z B0 b gu rb most sd sg N w) (o : Only (fun _ => False) w w') : Pair Z B0 b gu rb most sd sg N w' := by
  obtain ⟨h0, hv, hr, L, h1, h2, h3, h4, h5⟩ := h
  exact ⟨Nat.le_trans h0 o.size, hv, hr, L, SideU.only h1 o (fun _ _ => id), h2.only o (fun _ _ => id), h3, h4, h5⟩
theorem Pair.top {w : World} (h : Pair Z B0 b gu rb most sd sg N w) : Pair Z B0 b gu rb most sd sg w.heap.size w := by
  obtain ⟨h0, hv, hr, L, h1, h2, h3, h4, h5⟩ := h
  exact ⟨h0, hv, hr, L, h1, h2, fun i hi => ⟨(h3 i hi).1, h1.blk i hi⟩, h4, h5⟩

/-- Neither turns anything. -/
theorem two_calm {f1 f2 : Nat} {a1 a2 : Array Value} {v : Value} {w : World} (h : Pair Z B0 b gu rb most sd sg N w) (h1 : Calls Try.prog f1 a1 w fun e w' => e = .returned v ∧ Only (fun _ => False) w w') (h2 : ∀ W, Only (fun _ => False) w W → Calls Try.prog f2 a2 W fun e w' => e = .returned v ∧ Only (fun _ => False) W w') :
    Two Z N f1 f2 a1 a2 v (fun w' => Pair Z B0 b gu rb most sd sg w'.heap.size w') w :=
  h1.mono fun e w1 ⟨he, ho⟩ => ⟨he, Only.of_none ho, (h2 w1 ho).mono fun e w2 ⟨he2, ho2⟩ => ⟨he2, ((h.keep ho).keep ho2).top, Only.of_none ho2⟩⟩
theorem calm_of {f : Nat} {a : Array Value} {v : Value} {w : World} (h : Calls Try.prog f a w fun e w' => e = .returned v ∧ w = w') : Calls Try.prog f a w fun e w' => e = .returned v ∧ Only (fun _ => False) w w' :=
  h.mono fun e w1 ⟨he, ho⟩ => ⟨he, ho ▸ Only.refl _ _⟩

variable (hZ : ∀ i, B0 ≤ i → Z i)
include hZ
/-- Both turn alike. -/
theorem two_turn {f1 f2 : Nat} {a1 a2 : Array Value} {v : Value} {w : World} {hv hr : Value} {L L' : List Lvl} (h0 : B0 ≤ w.heap.size) (h1 : SideAt w b gu most sg hv L) (h2 : R5At w rb sd most sg hr L) (h3 : ∀ i, SdB b gu hv i → Z i ∧ i < N) (h4 : ∀ i, R5B rb hr i → Z i) (h5 : ∀ i, SdB b gu hv i → ¬ R5B rb hr i)
    (k1 : Calls Try.prog f1 a1 w (SdPost b gu most sg hv L' w v)) (k2 : ∀ W, R5At W rb sd most sg hr L → Calls Try.prog f2 a2 W (R5Post rb sd most sg hr L' W v)) :
    Two Z N f1 f2 a1 a2 v (fun w' => Pair Z B0 b gu rb most sd sg w'.heap.size w') w := by
  refine k1.mono fun e w1 hq => ?_
  obtain ⟨hv', he, s1, o1, l1⟩ := hq
  refine ⟨he, o1.mono fun i _ hi => h3 i hi, ?_⟩
  have r1 := h2.only o1 (fun i hi hb => h5 i hb hi)
  refine (k2 w1 r1).mono fun e w2 hq => ?_
  obtain ⟨hr', he2, r2, o2, l2⟩ := hq
  have z1 := o1.size
  have z2 := o2.size
  have n1 : ∀ i, SdB b gu hv' i → SdB b gu hv i ∨ w.heap.size ≤ i := fun i hi => by
    rcases hi with e | e | e
    · exact .inl (.inl e)
    · exact .inl (.inr (.inl e))
    · rcases l1 with e' | ⟨g, e', hg⟩
      · exact .inl (.inr (.inr (by rw [← e']; exact e)))
      · rw [e'] at e; injection e with e; exact .inr (by omega)
  have n2 : ∀ i, R5B rb hr' i → R5B rb hr i ∨ w1.heap.size ≤ i := fun i hi => by
    rcases hi with e | e
    · exact .inl (.inl e)
    · rcases l2 with e' | e' | ⟨g, e', hg⟩
      · rw [e'] at e; cases e
      · exact .inl (.inr (by rw [← e']; exact e))
      · rw [e'] at e; injection e with e; exact .inr (by omega)
  have s2 := SideU.only s1 o2 (fun i hi hb => by
    rcases n1 i hi with h | h
    · exact h5 i h hb
    · have := h2.blk i hb; omega)
  refine ⟨he2, ⟨by omega, hv', hr', L', s2, r2, fun i hi => ⟨?_, s2.blk i hi⟩, fun i hi => ?_, fun i hi hb => ?_⟩, o2.mono fun i _ hi => h4 i hi⟩
  · rcases n1 i hi with h | h
    · exact (h3 i h).1
    · exact hZ i (by omega)
  · rcases n2 i hi with h | h
    · exact h4 i h
    · exact hZ i (by omega)
  · rcases n2 i hb with h | h
    · rcases n1 i hi with h' | h'
      · exact h5 i h' h
      · have := h2.blk i h; omega
    · have := s1.blk i hi; omega

theorem r_add_any {w : World} {hr : Value} {L : List Lvl} (h : R5At w rb sd most sg hr L) (ok : LvOk most sg L) (p : Int) (h1 : 1 ≤ p) (h2 : p ≤ 1000000000) (hp : has p L = false) (r : Nat) (hrn : r ∉ L.map Prod.snd) (hmin : ∀ k, k < r → k ∈ L.map Prod.snd) (hl : L.length < most) :
    Calls Try.prog 46 #[.pointer (some ⟨rb, 0, none⟩), .int .i64 p] w (R5Post rb sd most sg hr (put sg p r L) w (.tuple #[.int .i64 (r : Nat), .int .i64 0])) := by
  have _ := hZ
  rcases h.own.2 with ⟨e, e2⟩ | ⟨g, cap, cur, e, _⟩
  · have hL : L = [] := by
      obtain ⟨a, cap, e', _⟩ := own_slice h.own
      rw [e] at e'
      injection e' with _ e' _
      exact List.length_eq_zero_iff.1 e'.symm
    subst hL
    have hr0 : r = 0 := by
      rcases Nat.eq_zero_or_pos r with h | h
      · exact h
      · have := hmin 0 h; simp at this
    subst hr0
    subst e
    exact r_add_nil h ok p h1 h2 hl
  · exact r_add_some g cap e h ok p h1 h2 hp r hrn hmin hl

theorem two_add (w : World) (h : Pair Z B0 b gu rb most sd sg N w) (p : Int) :
    ∃ x y : Int, Two Z N 11 46 #[.pointer (some ⟨b, 0, none⟩), .int .i64 p] #[.pointer (some ⟨rb, 0, none⟩), .int .i64 p] (.tuple #[.int .i64 x, .int .i64 y]) (fun w' => Pair Z B0 b gu rb most sd sg w'.heap.size w') w := by
  have h' := h
  obtain ⟨h0, hv, hr, L, k1, k2, k3, k4, k5⟩ := h
  have ok := k1.ok
  by_cases hb : p < 1 ∨ 1000000000 < p
  · exact ⟨0, 1, two_calm h' (calm_of (s_add_bad p hb)) fun W o => calm_of (r_add_bad (k2.only o (fun _ _ => id)) ok p hb)⟩
  · cases hp : has p L with
    | true => exact ⟨0, 52, two_calm h' (s_add_twice k1 p (by omega) (by omega) hp) fun W o => calm_of (r_add_twice (k2.only o (fun _ _ => id)) ok p (by omega) (by omega) hp)⟩
    | false =>
      rcases Nat.lt_or_ge L.length most with hl | hl
      · obtain ⟨r, a1, a2, a3⟩ := free_row hl
        exact ⟨r, 0, two_turn hZ h0 k1 k2 k3 k4 k5 (s_add k1 p (by omega) (by omega) hp r a1 a2 a3 hl) fun W hW => r_add_any hZ hW ok p (by omega) (by omega) hp r a2 a3 hl⟩
      · exact ⟨0, 50, two_calm h' (s_add_full k1 p (by omega) (by omega) hp hl) fun W o => r_add_full (k2.only o (fun _ _ => id)) ok p (by omega) (by omega) hp hl⟩

theorem two_drop (w : World) (h : Pair Z B0 b gu rb most sd sg N w) (p : Int) :
    ∃ x : Int, Two Z N 12 47 #[.pointer (some ⟨b, 0, none⟩), .int .i64 p] #[.pointer (some ⟨rb, 0, none⟩), .int .i64 p] (.int .i64 x) (fun w' => Pair Z B0 b gu rb most sd sg w'.heap.size w') w := by
  have h' := h
  obtain ⟨h0, hv, hr, L, k1, k2, k3, k4, k5⟩ := h
  have ok := k1.ok
  cases hp : has p L with
  | true =>
    obtain ⟨⟨q, r⟩, hx, rfl⟩ := has_iff.1 hp
    obtain ⟨k, hx⟩ := List.mem_iff_getElem?.1 hx
    have hk := has_pos ok.hsg ok.srt hx rfl
    exact ⟨0, two_turn hZ h0 k1 k2 k3 k4 k5 (s_drop k1 q k hk r hx) fun W hW => r_drop hW ok q k hk r hx⟩
  | false => exact ⟨51, two_calm h' (s_drop_no k1 p hp) fun W o => calm_of (r_drop_no (k2.only o (fun _ _ => id)) ok p hp)⟩

theorem two_find (w : World) (h : Pair Z B0 b gu rb most sd sg N w) (p : Int) :
    ∃ x : Int, Two Z N 16 48 #[.pointer (some ⟨b, 0, none⟩), .int .i64 p] #[.pointer (some ⟨rb, 0, none⟩), .int .i64 p] (.int .i64 x) (fun w' => Pair Z B0 b gu rb most sd sg w'.heap.size w') w := by
  have _ := hZ
  have h' := h
  obtain ⟨h0, hv, hr, L, k1, k2, k3, k4, k5⟩ := h
  have ok := k1.ok
  cases hp : has p L with
  | true =>
    obtain ⟨⟨q, r⟩, hx, rfl⟩ := has_iff.1 hp
    exact ⟨r, two_calm h' (s_find k1 q r hx) fun W o => calm_of (r_find (k2.only o (fun _ _ => id)) ok q r hx)⟩
  | false => exact ⟨-1, two_calm h' (s_find_no k1 p hp) fun W o => calm_of (r_find_no (k2.only o (fun _ _ => id)) ok p hp)⟩

theorem two_at (w : World) (h : Pair Z B0 b gu rb most sd sg N w) (n : Int) :
    ∃ (x : Int) (y : Bool), Two Z N 14 49 #[.pointer (some ⟨b, 0, none⟩), .int .i64 n] #[.pointer (some ⟨rb, 0, none⟩), .int .i64 n] (.tuple #[.int .i64 x, .bool y]) (fun w' => Pair Z B0 b gu rb most sd sg w'.heap.size w') w := by
  have _ := hZ
  have h' := h
  obtain ⟨h0, hv, hr, L, k1, k2, k3, k4, k5⟩ := h
  by_cases hb : n < 0 ∨ (L.length : Int) ≤ n
  · exact ⟨0, false, two_calm h' (calm_of (s_at_no k1 n hb)) fun W o => calm_of (r_at_no (k2.only o (fun _ _ => id)) n hb)⟩
  · obtain ⟨i, rfl⟩ : ∃ k : Nat, n = k := ⟨n.toNat, by omega⟩
    obtain ⟨x, hx⟩ : ∃ x, L[i]? = some x := ⟨_, List.getElem?_eq_getElem (by omega)⟩
    exact ⟨x.1, true, two_calm h' (calm_of (s_at k1 i x hx)) fun W o => calm_of (r_at (k2.only o (fun _ _ => id)) i x hx)⟩

theorem two_better (w : World) (h : Pair Z B0 b gu rb most sd sg N w) (p : Int) :
    ∃ x : Int, Two Z N 15 50 #[.pointer (some ⟨b, 0, none⟩), .int .i64 p] #[.pointer (some ⟨rb, 0, none⟩), .int .i64 p] (.int .i64 x) (fun w' => Pair Z B0 b gu rb most sd sg w'.heap.size w') w := by
  have _ := hZ
  have h' := h
  obtain ⟨h0, hv, hr, L, k1, k2, k3, k4, k5⟩ := h
  exact ⟨_, two_calm h' (s_better k1 p) fun W o => r_better (k2.only o (fun _ _ => id)) k1.ok p⟩
end

theorem WantU.of_own {w : World} {base n cap : Nat} {a : Option Addr} {U : List Lvl} (h : w.ownsRow base 161 2 (.slice a n cap) U.length (lvV U)) : WantU w a U := fun j x hx => by
  have hlt := (List.getElem?_eq_some_iff.1 hx).1
  obtain ⟨g, cap', e, _, _, h0, h3⟩ := own_cell h (by omega)
  obtain ⟨t1, t2⟩ := lvV_at hx
  injection e with e1 e2 e3
  exact ⟨g, e1, h0, (h3 _ _ t1).cell, (h3 _ _ t2).cell⟩

/-- What the document's Upto gives is what Upto tells. -/
theorem both_upto {w : World} {b gu rb most : Nat} {sd sg : Int} {hv hr : Value} {L : List Lvl} (h1 : SideAt w b gu most sg hv L) (h2 : R5At w rb sd most sg hr L) (lim : Int) :
    Calls Try.prog 51 #[.pointer (some ⟨rb, 0, none⟩), .int .i64 lim] w fun e w1 => ∃ a n cap, e = .returned (.slice a n cap) ∧ Only (fun _ => False) w w1 ∧
      ∀ W, Only (fun _ => False) w1 W → Calls Try.prog 52 #[.pointer (some ⟨b, 0, none⟩), .int .i64 lim, .slice a n cap] W fun e w' => e = .returned (.bool true) ∧ Only (fun _ => False) W w' := by
  refine (r_upto h2 h1.ok lim).mono fun e w1 hq => ?_
  obtain ⟨v, he, hown, ho⟩ := hq
  obtain ⟨a, cap, rfl, hc⟩ := own_slice hown
  exact ⟨a, _, cap, he, ho, fun W o => l_upto W b gu most sg hv L (SideU.only h1 (ho.trans o) (fun _ _ => id)) lim _ rfl a _ cap rfl hc ((WantU.of_own hown).only o (fun _ _ => id))⟩

set_option maxRecDepth 100000 in
theorem s_looks {Z : Nat → Prop} {B0 b gu rb most : Nat} {sd sg : Int} {N : Nat} (w : World) (h : Pair Z B0 b gu rb most sd sg N w) :
    Calls Try.prog 21 #[.pointer (some ⟨b, 0, none⟩), .pointer (some ⟨rb, 0, none⟩)] w fun e w' => e = .returned (.bool true) ∧ Only (fun _ => False) w w' := by
  obtain ⟨_, hv, hr, L, h1, h2, _, _, _⟩ := h
  have HL := Lib.hid (s_len h1)
  have HU := Lib.hid (both_upto h1 h2 0)
  have c2 := h2.c2.cell
  obtain ⟨a, cap, hvv, hcap⟩ := own_slice h2.own
  rw [hvv] at c2
  have z2 := cell_lt c2
  cases L with
  | nil =>
    have HB := Lib.hid (s_best_no h1)
    have HA := Lib.hid (show Calls Try.prog 49 #[.pointer (some ⟨rb, 0, none⟩), .int .i64 0] w _ from r_at_no h2 0 (.inr (by simp)))
    simp only [List.length_nil] at HL c2
    clear h1 h2 hvv hcap
    go_enter Try.func21, Try.ntmps21
    go_wp2_with fail
    refine HL.out.mono ?_
    rintro e w1 ⟨rfl, rfl⟩
    go_wp2_with fail
    refine HB.out.mono ?_
    rintro e w1 ⟨rfl, rfl⟩
    go_wp2_with fail
    refine HA.out.mono ?_
    rintro e w1 ⟨rfl, rfl⟩
    go_wp2_with fail
    refine HU.out.mono ?_
    intro e w1 hq
    obtain ⟨ua, un, uc, rfl, o1, hu⟩ := hq
    have HLU := fun W o => Lib.hid (hu W o)
    have c2 := o1.cell c2 id
    have z2 := cell_lt c2
    clear hu
    go_wp2_with fail
    refine (HLU _ (by repeat' (first | (with_reducible exact Only.refl _ _) | (with_reducible assumption) | (refine Only.of_none ?_; with_reducible assumption) | (with_reducible refine Only.drewN ?_ _) | (with_reducible refine Only.drew ?_) | (with_reducible refine Only.alloc ?_ _) | (with_reducible refine Only.setCell ?_ ?_ _) | (with_reducible refine Only.then0 ?_ (by with_reducible assumption)) | (with_reducible refine Only.thenN ?_ (by with_reducible assumption) ?_) | (with_reducible refine Only.trans ?_ (by with_reducible assumption)) | (refine .inl ?_; first | rfl | (simp; done) | (simp [Ar.blk]; done)) | (refine .inr ?_; first | omega | (simp; done) | (simp; omega) | exact Only.size (by with_reducible assumption) | (refine Nat.le_trans (Only.size (by with_reducible assumption)) ?_; simp; done))))).out.mono ?_
    rintro e w2 ⟨rfl, o2⟩
    have c2 := o2.cell c2 id
    have z2 := cell_lt c2
    go_wp2_with fail
    go_returns
    exact ⟨rfl, by repeat' (first | (with_reducible exact Only.refl _ _) | (with_reducible assumption) | (refine Only.of_none ?_; with_reducible assumption) | (with_reducible refine Only.drewN ?_ _) | (with_reducible refine Only.drew ?_) | (with_reducible refine Only.alloc ?_ _) | (with_reducible refine Only.setCell ?_ ?_ _) | (with_reducible refine Only.then0 ?_ (by with_reducible assumption)) | (with_reducible refine Only.thenN ?_ (by with_reducible assumption) ?_) | (with_reducible refine Only.trans ?_ (by with_reducible assumption)) | (refine .inl ?_; first | rfl | (simp; done) | (simp [Ar.blk]; done)) | (refine .inr ?_; first | omega | (simp; done) | (simp; omega) | exact Only.size (by with_reducible assumption) | (refine Nat.le_trans (Only.size (by with_reducible assumption)) ?_; simp; done)))⟩
  | cons x t =>
    have HB := Lib.hid (s_best x t h1)
    have HA := Lib.hid (show Calls Try.prog 49 #[.pointer (some ⟨rb, 0, none⟩), .int .i64 0] w _ from r_at h2 0 x rfl)
    obtain ⟨xp, xr⟩ := x
    simp only at HB HA
    obtain ⟨n, hn⟩ : ∃ n, n = ((xp, xr) :: t).length := ⟨_, rfl⟩
    rw [← hn] at HL c2
    have tn : (n == n) = true := by simp
    have tn' : ((n : Int) == (n : Int)) = true := by simp
    have tx : (xp == xp) = true := by simp
    clear h1 h2 hvv hcap hn
    go_enter Try.func21, Try.ntmps21
    go_wp2_with fail
    refine HL.out.mono ?_
    rintro e w1 ⟨rfl, rfl⟩
    go_wp2_with fail
    refine HB.out.mono ?_
    rintro e w1 ⟨rfl, rfl⟩
    go_wp2_with fail
    refine HA.out.mono ?_
    rintro e w1 ⟨rfl, rfl⟩
    go_wp2_with fail
    refine HU.out.mono ?_
    intro e w1 hq
    obtain ⟨ua, un, uc, rfl, o1, hu⟩ := hq
    have HLU := fun W o => Lib.hid (hu W o)
    have c2 := o1.cell c2 id
    have z2 := cell_lt c2
    clear hu
    go_wp2_with fail
    refine (HLU _ (by repeat' (first | (with_reducible exact Only.refl _ _) | (with_reducible assumption) | (refine Only.of_none ?_; with_reducible assumption) | (with_reducible refine Only.drewN ?_ _) | (with_reducible refine Only.drew ?_) | (with_reducible refine Only.alloc ?_ _) | (with_reducible refine Only.setCell ?_ ?_ _) | (with_reducible refine Only.then0 ?_ (by with_reducible assumption)) | (with_reducible refine Only.thenN ?_ (by with_reducible assumption) ?_) | (with_reducible refine Only.trans ?_ (by with_reducible assumption)) | (refine .inl ?_; first | rfl | (simp; done) | (simp [Ar.blk]; done)) | (refine .inr ?_; first | omega | (simp; done) | (simp; omega) | exact Only.size (by with_reducible assumption) | (refine Nat.le_trans (Only.size (by with_reducible assumption)) ?_; simp; done))))).out.mono ?_
    rintro e w2 ⟨rfl, o2⟩
    have c2 := o2.cell c2 id
    have z2 := cell_lt c2
    go_wp2_with fail
    go_returns
    exact ⟨rfl, by repeat' (first | (with_reducible exact Only.refl _ _) | (with_reducible assumption) | (refine Only.of_none ?_; with_reducible assumption) | (with_reducible refine Only.drewN ?_ _) | (with_reducible refine Only.drew ?_) | (with_reducible refine Only.alloc ?_ _) | (with_reducible refine Only.setCell ?_ ?_ _) | (with_reducible refine Only.then0 ?_ (by with_reducible assumption)) | (with_reducible refine Only.thenN ?_ (by with_reducible assumption) ?_) | (with_reducible refine Only.trans ?_ (by with_reducible assumption)) | (refine .inl ?_; first | rfl | (simp; done) | (simp [Ar.blk]; done)) | (refine .inr ?_; first | omega | (simp; done) | (simp; omega) | exact Only.size (by with_reducible assumption) | (refine Nat.le_trans (Only.size (by with_reducible assumption)) ?_; simp; done)))⟩
end Go.Proofs.Ytkglplngnjgnhaa
