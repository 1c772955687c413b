/- Levels: a side's prices in memory; where a price stands. Conditions: a side as its New lays it, its prices from better to worse. -/
import Derived.Test.YtkglplngnjgnhaaLv4
namespace Go.Proofs.Ytkglplngnjgnhaa
set_option linter.unusedVariables false
set_option linter.unusedSimpArgs false
open Go.RowKit

/-- A side's cells. -/
def lvV (l : List (Int × Nat)) : List Value := l.flatMap fun x => [Value.int .i64 x.1, Value.int .i64 (x.2 : Int)]
theorem lvV_append (l m : List (Int × Nat)) : lvV (l ++ m) = lvV l ++ lvV m := by simp [lvV]
theorem lvV_length (l : List (Int × Nat)) : (lvV l).length = l.length * 2 := by
  induction l with
  | nil => rfl
  | cons x t ih => simp only [lvV, List.flatMap_cons, List.length_append, List.length_cons, List.length_nil] at ih ⊢; omega
theorem lvV_at {l : List (Int × Nat)} {i : Nat} {x : Int × Nat} (h : l[i]? = some x) : (lvV l)[i * 2]? = some (.int .i64 x.1) ∧ (lvV l)[i * 2 + 1]? = some (.int .i64 (x.2 : Int)) := by
  induction l generalizing i with
  | nil => simp at h
  | cons y t ih =>
    cases i with
    | zero => simp at h; subst h; exact ⟨rfl, rfl⟩
    | succ i =>
      have := ih (i := i) (by simpa using h)
      rw [show (i + 1) * 2 = i * 2 + 2 by omega]
      exact this
theorem lvV_one (l : List (Int × Nat)) : ∀ u ∈ lvV l, u.oneCell' = true := by
  intro u hu
  obtain ⟨n, _, hu⟩ := List.mem_flatMap.1 hu
  simp at hu
  rcases hu with rfl | rfl <;> rfl
theorem lvV_take (l : List (Int × Nat)) (k : Nat) : lvV (l.take k) = (lvV l).take (k * 2) := by
  induction l generalizing k with
  | nil => simp [lvV]
  | cons x t ih =>
    cases k with
    | zero => simp [lvV]
    | succ k =>
      have e : lvV (x :: t) = Value.int .i64 x.1 :: Value.int .i64 (x.2 : Int) :: lvV t := rfl
      have e2 : lvV ((x :: t).take (k + 1)) = Value.int .i64 x.1 :: Value.int .i64 (x.2 : Int) :: lvV (t.take k) := rfl
      rw [e, e2, ih, show (k + 1) * 2 = k * 2 + 1 + 1 by omega]; rfl
theorem lvV_drop (l : List (Int × Nat)) (k : Nat) : lvV (l.drop k) = (lvV l).drop (k * 2) := by
  induction l generalizing k with
  | nil => simp [lvV]
  | cons x t ih =>
    cases k with
    | zero => simp [lvV]
    | succ k =>
      have e : lvV (x :: t) = Value.int .i64 x.1 :: Value.int .i64 (x.2 : Int) :: lvV t := rfl
      rw [e, List.drop_succ_cons, ih, show (k + 1) * 2 = k * 2 + 1 + 1 by omega]; rfl

/-! ### The plain side -/
/-- From better to worse. -/
def Srt (sg : Int) (l : List (Int × Nat)) : Prop := l.Pairwise fun x y => sg * x.1 < sg * y.1
/-- How many are better. -/
def pos (sg p : Int) : List (Int × Nat) → Nat
  | [] => 0
  | x :: t => if sg * x.1 < sg * p then pos sg p t + 1 else 0
/-- Is a price there? -/
def has (p : Int) (l : List (Int × Nat)) : Bool := l.any fun x => x.1 == p
theorem pos_le (sg p : Int) (l : List (Int × Nat)) : pos sg p l ≤ l.length := by
  induction l with
  | nil => simp [pos]
  | cons x t ih => simp only [pos]; split <;> simp <;> omega
theorem pos_lt {sg p : Int} {l : List (Int × Nat)} (hs : Srt sg l) {j : Nat} {x : Int × Nat} (h : l[j]? = some x) : j < pos sg p l ↔ sg * x.1 < sg * p := by
  induction l generalizing j with
  | nil => simp at h
  | cons y t ih =>
    have hs2 := List.pairwise_cons.1 hs
    simp only [pos]
    cases j with
    | zero =>
      simp at h; subst h
      split
      · simp; assumption
      · simp; omega
    | succ j =>
      have h : t[j]? = some x := by simpa using h
      have hy := hs2.1 x (List.mem_of_getElem? h)
      have := ih hs2.2 h
      split
      · rw [← this]; omega
      · constructor
        · intro h; omega
        · intro h; omega
theorem sg_inj {sg a b : Int} (hsg : sg = 1 ∨ sg = -1) (h : sg * a = sg * b) : a = b := by rcases hsg with rfl | rfl <;> omega
theorem has_iff {p : Int} {l : List (Int × Nat)} : has p l = true ↔ ∃ x ∈ l, x.1 = p := by simp [has]
/-- A price that is there stands at its place. -/
theorem has_pos {sg p : Int} {l : List (Int × Nat)} (hsg : sg = 1 ∨ sg = -1) (hs : Srt sg l) {j : Nat} {x : Int × Nat} (h : l[j]? = some x) (hx : x.1 = p) : j = pos sg p l := by
  have h1 := pos_lt (p := p) hs h
  rw [hx] at h1
  have h2 : ¬ j < pos sg p l := fun h => by have := h1.1 h; omega
  rcases Nat.lt_or_ge (pos sg p l) j with h3 | h3
  · have hjl := (List.getElem?_eq_some_iff.1 h).1
    obtain ⟨y, hy⟩ : ∃ y, l[pos sg p l]? = some y := ⟨_, List.getElem?_eq_getElem (by omega)⟩
    have h4 := pos_lt (p := p) hs hy
    have h5 : ¬ (sg * y.1 < sg * p) := fun h => by have := h4.2 h; omega
    have h6 : sg * y.1 < sg * x.1 := by
      have hp := List.pairwise_iff_getElem.1 hs (pos sg p l) j (by omega) hjl h3
      rw [(List.getElem?_eq_some_iff.1 hy).2, (List.getElem?_eq_some_iff.1 h).2] at hp
      exact hp
    rw [hx] at h6
    omega
  · omega
theorem has_at {sg p : Int} {l : List (Int × Nat)} (hsg : sg = 1 ∨ sg = -1) (hs : Srt sg l) : has p l = true ↔ ∃ x, l[pos sg p l]? = some x ∧ x.1 = p := by
  rw [has_iff]
  constructor
  · rintro ⟨x, hx, e⟩
    obtain ⟨j, hj⟩ := List.mem_iff_getElem?.1 hx
    have := has_pos hsg hs hj e
    exact ⟨x, this ▸ hj, e⟩
  · rintro ⟨x, hx, e⟩
    exact ⟨x, List.mem_of_getElem? hx, e⟩

/-- The comparison of the search. -/
def cmpV (sg x p : Int) : Int := if x = p then 0 else if sg * x < sg * p then -1 else 1

/-- A side lies at b, its marks at gu, its row is hv. -/
structure SideU (w : World) (b gu most : Nat) (sg : Int) (hv : Value) (L : List (Int × Nat)) (U : Nat → Bool) : Prop where
  c0 : Cell w b 0 (.int .i64 sg)
  c1 : Cell w b 1 hv
  c2 : Cell w b 2 (.slice (some ⟨gu, 0, none⟩) most most)
  us : ∀ n, n < most → Cell w gu n (.bool (U n))
  own : w.ownsRow 0 110 2 hv L.length (lvV L)
  sep : ∀ g, hv.ownBlock = some g → g ≠ b ∧ g ≠ gu
  ne : b ≠ gu
  hsg : sg = 1 ∨ sg = -1
  srt : Srt sg L
  nd : (L.map Prod.snd).Nodup
  lt : ∀ x ∈ L, x.2 < most
  pr : ∀ x ∈ L, 1 ≤ x.1 ∧ x.1 ≤ 1000000000
  len : L.length ≤ most
  small : most ≤ 128
  gul : gu < w.heap.size

/-- Which rows are prices'. -/
def rowB (L : List (Int × Nat)) (n : Nat) : Bool := decide (n ∈ L.map Prod.snd)
/-- Its marks tell which rows are prices'. -/
abbrev SideAt (w : World) (b gu most : Nat) (sg : Int) (hv : Value) (L : List (Int × Nat)) : Prop := SideU w b gu most sg hv L (rowB L)

/-- The blocks of a side. -/
def SdB (b gu : Nat) (hv : Value) (i : Nat) : Prop := i = b ∨ i = gu ∨ hv.ownBlock = some i

section
variable {w : World} {b gu most : Nat} {sg : Int} {hv : Value} {L : List (Int × Nat)}
theorem SideU.blk {U : Nat → Bool} (h : SideU w b gu most sg hv L U) (i : Nat) (hi : SdB b gu hv i) : i < w.heap.size := by
  rcases hi with rfl | rfl | e
  · exact h.c0.lt
  · exact h.gul
  · exact (h.own.lt i e).2
theorem SideU.only {U : Nat → Bool} {w' : World} (h : SideU w b gu most sg hv L U) {S : Nat → Prop} (ho : Only S w w') (hS : ∀ i, SdB b gu hv i → ¬ S i) : SideU w' b gu most sg hv L U := by
  have hb := hS b (.inl rfl); have hu := hS gu (.inr (.inl rfl))
  refine ⟨h.c0.only ho hb, h.c1.only ho hb, h.c2.only ho hb, fun n hn => (h.us n hn).only ho hu, ?_, h.sep, h.ne, h.hsg, h.srt, h.nd, h.lt, h.pr, h.len, h.small, Nat.lt_of_lt_of_le h.gul ho.size⟩
  refine ⟨h.own.1, ?_⟩
  rcases h.own.2 with hn | ⟨g, cap, cur, rfl, hb, hgg, rest⟩
  · exact .inl hn
  · exact .inr ⟨g, cap, cur, rfl, hb, (ho.block g (Array.getElem?_eq_some_iff.1 hgg).1 (hS g (.inr (.inr rfl)))).trans hgg, rest⟩

theorem SideU.at_ {U : Nat → Bool} (h : SideU w b gu most sg hv L U) {k : Nat} {x : Int × Nat} (hk : L[k]? = some x) :
    ∃ g cap, hv = .slice (some ⟨g, 0, none⟩) L.length cap ∧ L.length ≤ cap ∧ g < w.heap.size ∧ Cell w g (k * 2) (.int .i64 x.1) ∧ Cell w g (k * 2 + 1) (.int .i64 (x.2 : Int)) := by
  have hlt := (List.getElem?_eq_some_iff.1 hk).1
  obtain ⟨g, cap, e, h0, h1, h2, h3⟩ := own_cell h.own (by omega)
  obtain ⟨t1, t2⟩ := lvV_at hk
  exact ⟨g, cap, e, h0, h2, h3 _ _ t1, h3 _ _ t2⟩

/-- One mark is written anew. -/
theorem SideU.mark {U : Nat → Bool} (h : SideU w b gu most sg hv L U) (n : Nat) (q : Bool) : SideU (w.setCell ⟨gu, n, none⟩ (.bool q)) b gu most sg hv L (fun k => if k = n then q else U k) := by
  have ho := (Only.refl (· = gu) w).setCell (p := ⟨gu, n, none⟩) (.inl rfl) (.bool q)
  have hne := h.ne
  refine ⟨h.c0.only ho hne, h.c1.only ho hne, h.c2.only ho hne, fun k hk => ?_, ?_, h.sep, h.ne, h.hsg, h.srt, h.nd, h.lt, h.pr, h.len, h.small, Nat.lt_of_lt_of_le h.gul ho.size⟩
  · by_cases e : k = n
    · subst e; rw [if_pos rfl]; exact (h.us k hk).set _
    · rw [if_neg e]; exact (h.us k hk).far (off_ne (fun e' => e e'.symm)) _
  · refine ⟨h.own.1, ?_⟩
    rcases h.own.2 with hn | ⟨g, cap, cur, e, hb, hgg, rest⟩
    · exact .inl hn
    · exact .inr ⟨g, cap, cur, e, hb, (ho.block g (Array.getElem?_eq_some_iff.1 hgg).1 (h.sep g (by rw [e]; rfl)).2).trans hgg, rest⟩

/-- The row is another one, and its cell tells so. -/
theorem SideU.row {U U' : Nat → Bool} (h : SideU w b gu most sg hv L U) {w' : World} {v' : Value} {L' : List (Int × Nat)} (ho : Only (fun i => hv.ownBlock = some i) w w') (hown : w'.ownsRow 0 110 2 v' L'.length (lvV L'))
    (hloc : v'.ownBlock = hv.ownBlock ∨ ∃ g, v'.ownBlock = some g ∧ w.heap.size ≤ g) (hU : ∀ n, n < most → U n = U' n) (srt : Srt sg L') (nd : (L'.map Prod.snd).Nodup) (lt : ∀ x ∈ L', x.2 < most) (pr : ∀ x ∈ L', 1 ≤ x.1 ∧ x.1 ≤ 1000000000) (len : L'.length ≤ most) :
    SideU (w'.setCell ⟨b, 1, none⟩ v') b gu most sg v' L' U' ∧ Only (SdB b gu hv) w (w'.setCell ⟨b, 1, none⟩ v') ∧ (v'.ownBlock = hv.ownBlock ∨ ∃ g, v'.ownBlock = some g ∧ w.heap.size ≤ g) := by
  have hb := h.c0.lt
  have hgu := h.gul
  have sb : ¬ hv.ownBlock = some b := fun e => (h.sep b e).1 rfl
  have su : ¬ hv.ownBlock = some gu := fun e => (h.sep gu e).2 rfl
  have o3 := (Only.refl (· = b) w').setCell (p := ⟨b, 1, none⟩) (.inl rfl) v'
  have sep' : ∀ g, v'.ownBlock = some g → g ≠ b ∧ g ≠ gu := fun g e => by
    rcases hloc with e' | ⟨g', e', hg'⟩
    · exact h.sep g (e' ▸ e)
    · rw [e'] at e; injection e with e; omega
  refine ⟨⟨?_, ?_, ?_, fun n hn => ?_, ?_, sep', h.ne, h.hsg, srt, nd, lt, pr, len, h.small, Nat.lt_of_lt_of_le h.gul (Nat.le_trans ho.size o3.size)⟩, (ho.mono fun i _ e => .inr (.inr e)).setCell (.inl (.inl rfl)) v', hloc⟩
  · exact (h.c0.only ho sb).far (off_ne (by omega)) _
  · exact (h.c1.only ho sb).set v'
  · exact (h.c2.only ho sb).far (off_ne (by omega)) _
  · rw [← hU n hn]; exact ((h.us n hn).only ho su).only o3 (fun e => h.ne e.symm)
  · refine ⟨hown.1, ?_⟩
    rcases hown.2 with hn | ⟨g, cap, cur, e, hb', hgg, rest⟩
    · exact .inl hn
    · exact .inr ⟨g, cap, cur, e, hb', (o3.block g (Array.getElem?_eq_some_iff.1 hgg).1 (sep' g (by rw [e]; rfl)).1).trans hgg, rest⟩

set_option maxHeartbeats 1000000 in
/-- The closure of the search. -/
theorem s_cmp (h : SideAt w b gu most sg hv L) (x p : Int) (r : Nat) (bs : Nat) (hbs : w.cell? ⟨bs, 0, none⟩ = some (.pointer (some ⟨b, 0, none⟩))) :
    Calls Try.prog 95 #[.agg #[.int .i64 x, .int .i64 (r : Int)], .int .i64 p, .pointer (some ⟨bs, 0, none⟩)] w fun e w' => e = .returned (.int .i64 (cmpV sg x p)) ∧ Only (fun _ => False) w w' := by
  have c0 := h.c0.cell
  have hsg := h.hsg
  have z0 := cell_lt c0
  have z1 := cell_lt hbs
  clear h
  unfold cmpV
  by_cases e1 : x = p
  · subst e1
    have t1 : (x == x) = true := by simp
    rw [if_pos rfl]
    go_enter Try.func95, Try.ntmps95
    go_wp2_with fail
    go_returns
    exact ⟨rfl, by repeat' (first | (with_reducible exact Only.refl _ _) | (with_reducible assumption) | (refine Only.of_none ?_; with_reducible assumption) | (with_reducible refine Only.drewN ?_ _) | (with_reducible refine Only.drew ?_) | (with_reducible refine Only.alloc ?_ _) | (with_reducible refine Only.setCell ?_ ?_ _) | (with_reducible refine Only.then0 ?_ (by with_reducible assumption)) | (with_reducible refine Only.thenN ?_ (by with_reducible assumption) ?_) | (with_reducible refine Only.trans ?_ (by with_reducible assumption)) | (refine .inl ?_; first | rfl | (simp; done) | (simp [Ar.blk]; done)) | (refine .inr ?_; first | omega | (simp; done) | (simp; omega) | exact Only.size (by with_reducible assumption) | (refine Nat.le_trans (Only.size (by with_reducible assumption)) ?_; simp; done)))⟩
  · have t1 : (x == p) = false := by simpa using e1
    rw [if_neg e1]
    rcases hsg with rfl | rfl
    · have t2 : decide ((0 : Int) < 1) = true := by decide
      by_cases e2 : x < p
      · have t3 : decide (x < p) = true := by simpa using e2
        rw [if_pos (by omega)]
        clear e1
        go_enter Try.func95, Try.ntmps95
        go_wp2_with fail
        go_quiet (fail)
        go_wp2_with fail
        go_returns
        exact ⟨rfl, by repeat' (first | (with_reducible exact Only.refl _ _) | (with_reducible assumption) | (refine Only.of_none ?_; with_reducible assumption) | (with_reducible refine Only.drewN ?_ _) | (with_reducible refine Only.drew ?_) | (with_reducible refine Only.alloc ?_ _) | (with_reducible refine Only.setCell ?_ ?_ _) | (with_reducible refine Only.then0 ?_ (by with_reducible assumption)) | (with_reducible refine Only.thenN ?_ (by with_reducible assumption) ?_) | (with_reducible refine Only.trans ?_ (by with_reducible assumption)) | (refine .inl ?_; first | rfl | (simp; done) | (simp [Ar.blk]; done)) | (refine .inr ?_; first | omega | (simp; done) | (simp; omega) | exact Only.size (by with_reducible assumption) | (refine Nat.le_trans (Only.size (by with_reducible assumption)) ?_; simp; done)))⟩
      · have t3 : decide (x < p) = false := by simpa using e2
        rw [if_neg (by omega)]
        clear e1
        go_enter Try.func95, Try.ntmps95
        go_wp2_with fail
        go_quiet (fail)
        go_wp2_with fail
        go_returns
        exact ⟨rfl, by repeat' (first | (with_reducible exact Only.refl _ _) | (with_reducible assumption) | (refine Only.of_none ?_; with_reducible assumption) | (with_reducible refine Only.drewN ?_ _) | (with_reducible refine Only.drew ?_) | (with_reducible refine Only.alloc ?_ _) | (with_reducible refine Only.setCell ?_ ?_ _) | (with_reducible refine Only.then0 ?_ (by with_reducible assumption)) | (with_reducible refine Only.thenN ?_ (by with_reducible assumption) ?_) | (with_reducible refine Only.trans ?_ (by with_reducible assumption)) | (refine .inl ?_; first | rfl | (simp; done) | (simp [Ar.blk]; done)) | (refine .inr ?_; first | omega | (simp; done) | (simp; omega) | exact Only.size (by with_reducible assumption) | (refine Nat.le_trans (Only.size (by with_reducible assumption)) ?_; simp; done)))⟩
    · have t2 : decide ((0 : Int) < -1) = false := by decide
      by_cases e2 : x < p
      · have t3 : decide (x < p) = true := by simpa using e2
        rw [if_neg (by omega)]
        clear e1
        go_enter Try.func95, Try.ntmps95
        go_wp2_with fail
        go_quiet (fail)
        go_wp2_with fail
        go_returns
        exact ⟨rfl, by repeat' (first | (with_reducible exact Only.refl _ _) | (with_reducible assumption) | (refine Only.of_none ?_; with_reducible assumption) | (with_reducible refine Only.drewN ?_ _) | (with_reducible refine Only.drew ?_) | (with_reducible refine Only.alloc ?_ _) | (with_reducible refine Only.setCell ?_ ?_ _) | (with_reducible refine Only.then0 ?_ (by with_reducible assumption)) | (with_reducible refine Only.thenN ?_ (by with_reducible assumption) ?_) | (with_reducible refine Only.trans ?_ (by with_reducible assumption)) | (refine .inl ?_; first | rfl | (simp; done) | (simp [Ar.blk]; done)) | (refine .inr ?_; first | omega | (simp; done) | (simp; omega) | exact Only.size (by with_reducible assumption) | (refine Nat.le_trans (Only.size (by with_reducible assumption)) ?_; simp; done)))⟩
      · have t3 : decide (x < p) = false := by simpa using e2
        rw [if_pos (by omega)]
        clear e1
        go_enter Try.func95, Try.ntmps95
        go_wp2_with fail
        go_quiet (fail)
        go_wp2_with fail
        go_returns
        exact ⟨rfl, by repeat' (first | (with_reducible exact Only.refl _ _) | (with_reducible assumption) | (refine Only.of_none ?_; with_reducible assumption) | (with_reducible refine Only.drewN ?_ _) | (with_reducible refine Only.drew ?_) | (with_reducible refine Only.alloc ?_ _) | (with_reducible refine Only.setCell ?_ ?_ _) | (with_reducible refine Only.then0 ?_ (by with_reducible assumption)) | (with_reducible refine Only.thenN ?_ (by with_reducible assumption) ?_) | (with_reducible refine Only.trans ?_ (by with_reducible assumption)) | (refine .inl ?_; first | rfl | (simp; done) | (simp [Ar.blk]; done)) | (refine .inr ?_; first | omega | (simp; done) | (simp; omega) | exact Only.size (by with_reducible assumption) | (refine Nat.le_trans (Only.size (by with_reducible assumption)) ?_; simp; done)))⟩
end
end Go.Proofs.Ytkglplngnjgnhaa
