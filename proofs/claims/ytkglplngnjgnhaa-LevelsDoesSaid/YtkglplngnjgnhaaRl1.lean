/- The document's side in memory: Better, Find, At, Upto, New. Conditions: a side as its New lays it, the prices from better to worse. -/
import Derived.Test.YtkglplngnjgnhaaUpto
namespace Go.Proofs.Ytkglplngnjgnhaa
set_option linter.unusedVariables false
set_option linter.unusedSimpArgs false
open Go.RowKit

/-- What is known of the prices. -/
structure LvOk (most : Nat) (sg : Int) (L : List Lvl) : Prop where
  hsg : sg = 1 ∨ sg = -1
  srt : Srt sg L
  nd : (L.map Prod.snd).Nodup
  lt : ∀ x ∈ L, x.2 < most
  pr : ∀ x ∈ L, 1 ≤ x.1 ∧ x.1 ≤ 1000000000
  len : L.length ≤ most
  small : most ≤ 128
theorem SideU.ok {U : Nat → Bool} {w : World} {b gu most : Nat} {sg : Int} {hv : Value} {L : List Lvl} (h : SideU w b gu most sg hv L U) : LvOk most sg L := ⟨h.hsg, h.srt, h.nd, h.lt, h.pr, h.len, h.small⟩

/-- How many are better, counted. -/
def cntB (sg p : Int) (L : List Lvl) : Nat := (L.filter fun x => decide (sg * x.1 < sg * p)).length
theorem cntB_pos {sg p : Int} {L : List Lvl} (hs : Srt sg L) : cntB sg p L = pos sg p L := by
  induction L with
  | nil => rfl
  | cons x t ih =>
    have hs2 := List.pairwise_cons.1 hs
    unfold cntB at ih ⊢
    simp only [pos, List.filter_cons]
    by_cases h : sg * x.1 < sg * p
    · rw [if_pos (decide_eq_true h), if_pos h, List.length_cons, ih hs2.2]
    · rw [if_neg (by rw [decide_eq_false h]; decide), if_neg h]
      rw [List.filter_eq_nil_iff.2 (fun y hy => by have := hs2.1 y hy; simp; omega)]
      rfl
theorem cntB_snoc (sg p : Int) (l : List Lvl) (x : Lvl) : cntB sg p (l ++ [x]) = cntB sg p l + if sg * x.1 < sg * p then 1 else 0 := by
  unfold cntB
  rw [List.filter_append, List.length_append]
  by_cases h : sg * x.1 < sg * p <;> simp [List.filter_cons, h]
theorem cntB_take {sg p : Int} (L : List Lvl) (k : Nat) : cntB sg p (L.take k) ≤ k := by
  unfold cntB
  exact Nat.le_trans (List.length_filter_le _ _) (List.length_take_le _ _)
/-- Those that are as good as a limit, picked. -/
def pickU (sg lim : Int) (L : List Lvl) : List Lvl := L.filter fun x => decide (lim = 0) || !decide (sg * lim < sg * x.1)
theorem pickU_snoc (sg lim : Int) (l : List Lvl) (x : Lvl) : pickU sg lim (l ++ [x]) = if lim = 0 ∨ ¬ sg * lim < sg * x.1 then pickU sg lim l ++ [x] else pickU sg lim l := by
  unfold pickU
  rw [List.filter_append]
  by_cases h : lim = 0 ∨ ¬ sg * lim < sg * x.1
  · rw [if_pos h]
    congr 1
    rw [List.filter_cons, if_pos (by rcases h with h | h <;> simp [h])]
    rfl
  · rw [if_neg h]
    have h1 : ¬ lim = 0 := fun e => h (.inl e)
    have h2 : sg * lim < sg * x.1 := Classical.byContradiction fun e => h (.inr e)
    rw [List.filter_cons, if_neg (by simp [h1, h2]), List.filter_nil, List.append_nil]
theorem pickU_eq {sg lim : Int} (hsg : sg = 1 ∨ sg = -1) {L : List Lvl} (hs : Srt sg L) : pickU sg lim L = uptoL sg lim L := by
  unfold uptoL
  by_cases h0 : lim = 0
  · rw [if_pos h0]
    unfold pickU
    exact List.filter_eq_self.2 (fun x _ => by simp [h0])
  · rw [if_neg h0]
    induction L with
    | nil => simp [pickU, pos, has]
    | cons x t ih =>
      have hs2 := List.pairwise_cons.1 hs
      have ih := ih hs2.2
      unfold pickU at ih ⊢
      rw [List.filter_cons]
      simp only [pos]
      by_cases h1 : sg * x.1 < sg * lim
      · rw [if_pos (by simp [h0]; omega), if_pos h1]
        have hh : has lim (x :: t) = has lim t := by
          rw [Bool.eq_iff_iff, has_iff, has_iff]
          constructor
          · rintro ⟨y, hy, e⟩
            rcases List.mem_cons.1 hy with rfl | hy
            · rw [e] at h1; omega
            · exact ⟨y, hy, e⟩
          · rintro ⟨y, hy, e⟩; exact ⟨y, by simp [hy], e⟩
        rw [ih, hh]
        split <;> simp
      · rw [if_neg h1]
        by_cases h2 : x.1 = lim
        · rw [if_pos (by simp [h0, h2]), if_pos (has_iff.2 ⟨x, by simp, h2⟩)]
          rw [List.filter_eq_nil_iff.2 (fun y hy => by have := hs2.1 y hy; rw [h2] at this; simp [h0]; omega)]
          rfl
        · have h3 : sg * lim < sg * x.1 := by
            rcases Int.lt_trichotomy (sg * lim) (sg * x.1) with h | h | h
            · exact h
            · exact absurd (sg_inj hsg h).symm h2
            · omega
          rw [if_neg (by simp [h0]; omega)]
          have hh : has lim (x :: t) = false := by
            rw [← Bool.not_eq_true, has_iff]
            rintro ⟨y, hy, e⟩
            rcases List.mem_cons.1 hy with rfl | hy
            · exact h2 e
            · have := hs2.1 y hy; rw [e] at this; omega
          rw [if_neg (by rw [hh]; decide)]
          rw [List.filter_eq_nil_iff.2 (fun y hy => by have := hs2.1 y hy; simp [h0]; omega)]
          rfl

/-- The document's side lies at rb, its prices' row is hv. -/
structure R5At (w : World) (rb : Nat) (sd : Int) (most : Nat) (sg : Int) (hv : Value) (L : List Lvl) : Prop where
  c0 : Cell w rb 0 (.int .u8 sd)
  c1 : Cell w rb 1 (.int .i64 (most : Nat))
  c2 : Cell w rb 2 hv
  own : w.ownsRow 0 161 2 hv L.length (lvV L)
  sep : ∀ g, hv.ownBlock = some g → g ≠ rb
  hsd : (sd = 1 ∧ sg = -1) ∨ (sd = 2 ∧ sg = 1)

/-- Its blocks. -/
def R5B (rb : Nat) (hv : Value) (i : Nat) : Prop := i = rb ∨ hv.ownBlock = some i

section
variable {w : World} {rb most : Nat} {sd sg : Int} {hv : Value} {L : List Lvl}
theorem R5At.blk (h : R5At w rb sd most sg hv L) (i : Nat) (hi : R5B rb hv i) : i < w.heap.size := by
  rcases hi with rfl | e
  · exact h.c0.lt
  · exact (h.own.lt i e).2
theorem R5At.only {w' : World} (h : R5At w rb sd most sg hv L) {S : Nat → Prop} (ho : Only S w w') (hS : ∀ i, R5B rb hv i → ¬ S i) : R5At w' rb sd most sg hv L := by
  have hb := hS rb (.inl rfl)
  refine ⟨h.c0.only ho hb, h.c1.only ho hb, h.c2.only ho hb, ⟨h.own.1, ?_⟩, h.sep, h.hsd⟩
  rcases h.own.2 with hn | ⟨g, cap, cur, rfl, hb, hgg, rest⟩
  · exact .inl hn
  · exact .inr ⟨g, cap, cur, rfl, hb, (ho.block g (Array.getElem?_eq_some_iff.1 hgg).1 (hS g (.inr rfl))).trans hgg, rest⟩
theorem R5At.at_ (h : R5At w rb sd most sg hv L) {k : Nat} {x : Lvl} (hk : L[k]? = some x) :
    ∃ g cap, hv = .slice (some ⟨g, 0, none⟩) L.length cap ∧ L.length ≤ cap ∧ g < w.heap.size ∧ Cell w g (k * 2) (.int .i64 x.1) ∧ Cell w g (k * 2 + 1) (.int .i64 (x.2 : Int)) := by
  have hlt := (List.getElem?_eq_some_iff.1 hk).1
  obtain ⟨g, cap, e, h0, h1, h2, h3⟩ := own_cell h.own (by omega)
  obtain ⟨t1, t2⟩ := lvV_at hk
  exact ⟨g, cap, e, h0, h2, h3 _ _ t1, h3 _ _ t2⟩

/-- Is a price better than another one? -/
theorem r_bet (w : World) (sd sg a b : Int) (hsd : (sd = 1 ∧ sg = -1) ∨ (sd = 2 ∧ sg = 1)) :
    Calls Try.prog 98 #[.int .u8 sd, .int .i64 a, .int .i64 b] w fun e w' => e = .returned (.bool (decide (sg * a < sg * b))) ∧ w = w' := by
  rcases hsd with ⟨rfl, rfl⟩ | ⟨rfl, rfl⟩
  · have e : decide (-1 * a < -1 * b) = decide (b < a) := by rw [Bool.eq_iff_iff]; simp
    rw [e]
    go_enter Try.func98, Try.ntmps98
    go_wp2_with fail
    go_returns
    exact ⟨rfl, rfl⟩
  · have e : decide (1 * a < 1 * b) = decide (a < b) := by rw [Bool.eq_iff_iff]; simp
    rw [e]
    go_enter Try.func98, Try.ntmps98
    go_wp2_with fail
    go_returns
    exact ⟨rfl, rfl⟩

set_option maxHeartbeats 2000000 in
set_option maxRecDepth 100000 in
theorem r_better (h : R5At w rb sd most sg hv L) (ok : LvOk most sg L) (p : Int) :
    Calls Try.prog 50 #[.pointer (some ⟨rb, 0, none⟩), .int .i64 p] w fun e w' => e = .returned (.int .i64 (pos sg p L : Nat)) ∧ Only (fun _ => False) w w' := by
  have hln := ok.len
  have hsm := ok.small
  rw [← cntB_pos (p := p) ok.srt]
  obtain ⟨C, hC⟩ : ∃ C, C = cntB sg p L := ⟨_, rfl⟩
  rw [← hC]
  have HC := Lib.hid hC
  clear hC
  obtain ⟨a, cap, hvv, hcap⟩ := own_slice h.own
  have c2 := h.c2.cell
  rw [hvv] at c2
  have c0 := h.c0.cell
  have hsd := h.hsd
  obtain ⟨n, hn⟩ : ∃ n, n = L.length := ⟨_, rfl⟩
  rw [← hn] at c2 hln hcap hvv
  have HH := Lib.hid h
  have HN := Lib.hid hn
  have HV := Lib.hid hvv
  have HSD := Lib.hid hsd
  have zb := cell_lt c0
  clear h ok hn hvv hsd
  go_enter Try.func50, Try.ntmps50
  go_wp2_with fail
  go_loopw [5, 6] (fun s5 s6 wr => ∃ j : Nat, j ≤ n ∧ s5 = .int .i64 (cntB sg p (L.take j) : Nat) ∧ s6 = .int .i64 j ∧ Only (fun _ => False) w wr) (fun _ s _ => n - (intOf s).toNat)
  case atStart => exact ⟨0, by omega, rfl, rfl, Only.refl _ _⟩
  case round =>
    obtain ⟨j, hj, rfl, rfl, ho⟩ := hrel
    have c0 := ho.cell c0 id
    have c2 := ho.cell c2 id
    have zb := cell_lt c0
    by_cases hlt : j < n
    · have tj : decide (j < n) = true := by simpa using hlt
      obtain ⟨x, hx⟩ : ∃ x, L[j]? = some x := ⟨_, List.getElem?_eq_getElem (by rw [← HN.out]; exact hlt)⟩
      obtain ⟨g, cap', e, _, hg, v1, v2⟩ := HH.out.at_ hx
      rw [HV.out, ← HN.out] at e
      obtain ⟨rfl, rfl⟩ : a = some ⟨g, 0, none⟩ ∧ cap = cap' := by injection e with e1 e2 e3; exact ⟨e1, e3⟩
      have v1 := ho.cell v1.cell id
      have zg := cell_lt v1
      have ij : (0 : Int) ≤ (j : Int) ∧ (j : Int) < (n : Int) := by omega
      have w1 : IntKind.i64.wrap ((j : Int) + 1) = (j : Int) + 1 := by rw [IntKind.wrap_i64]; omega
      have hct := cntB_take (sg := sg) (p := p) L j
      have e2 : cntB sg p (L.take (j + 1)) = cntB sg p (L.take j) + if sg * x.1 < sg * p then 1 else 0 := by
        rw [List.take_add_one, hx]; exact cntB_snoc sg p _ x
      obtain ⟨c, hc⟩ : ∃ c, c = cntB sg p (L.take j) := ⟨_, rfl⟩
      rw [← hc] at hct e2 ⊢
      have w2 : IntKind.i64.wrap ((c : Int) + 1) = (c : Int) + 1 := by rw [IntKind.wrap_i64]; omega
      have HB := fun W => Lib.hid (r_bet W sd sg x.1 p HSD.out)
      obtain ⟨xp, xr⟩ := x
      simp only at v1 e2 HB
      by_cases hb : sg * xp < sg * p
      · rw [if_pos hb] at e2
        have HB2 := fun W => Lib.hid (show Calls Try.prog 98 #[.int .u8 sd, .int .i64 xp, .int .i64 p] W (fun e w' => e = .returned (.bool true) ∧ W = w') from by have := (HB W).out; rwa [decide_eq_true hb] at this)
        have E2 := Lib.hid e2
        clear e e2 hx hc v2 hb HB
        go_wp2_with fail
        go_quiet ((go_at_call 98; exact Calls.quiet_of_same ((HB2 _).out.mono fun e w' ⟨h1, h2⟩ => ⟨h1, h2.symm⟩)))
        go_wp2_with fail
        go_roundw
        case rel => exact ⟨j + 1, by omega, by rw [E2.out]; go_num, by go_num, by repeat' (first | (with_reducible exact Only.refl _ _) | (with_reducible assumption) | (refine Only.of_none ?_; with_reducible assumption) | (with_reducible refine Only.drewN ?_ _) | (with_reducible refine Only.drew ?_) | (with_reducible refine Only.alloc ?_ _) | (with_reducible refine Only.setCell ?_ ?_ _) | (with_reducible refine Only.then0 ?_ (by with_reducible assumption)) | (with_reducible refine Only.thenN ?_ (by with_reducible assumption) ?_) | (with_reducible refine Only.trans ?_ (by with_reducible assumption)) | (refine .inl ?_; first | rfl | (simp; done) | (simp [Ar.blk]; done)) | (refine .inr ?_; first | omega | (simp; done) | (simp; omega) | exact Only.size (by with_reducible assumption) | (refine Nat.le_trans (Only.size (by with_reducible assumption)) ?_; simp; done)))⟩
        case measure => simp [intOf]; omega
      · rw [if_neg hb] at e2
        have HB2 := fun W => Lib.hid (show Calls Try.prog 98 #[.int .u8 sd, .int .i64 xp, .int .i64 p] W (fun e w' => e = .returned (.bool false) ∧ W = w') from by have := (HB W).out; rwa [decide_eq_false hb] at this)
        have E2 := Lib.hid e2
        clear e e2 hx hc v2 hb HB
        go_wp2_with fail
        go_quiet ((go_at_call 98; exact Calls.quiet_of_same ((HB2 _).out.mono fun e w' ⟨h1, h2⟩ => ⟨h1, h2.symm⟩)))
        go_wp2_with fail
        go_roundw
        case rel => exact ⟨j + 1, by omega, by rw [E2.out]; rfl, by go_num, by repeat' (first | (with_reducible exact Only.refl _ _) | (with_reducible assumption) | (refine Only.of_none ?_; with_reducible assumption) | (with_reducible refine Only.drewN ?_ _) | (with_reducible refine Only.drew ?_) | (with_reducible refine Only.alloc ?_ _) | (with_reducible refine Only.setCell ?_ ?_ _) | (with_reducible refine Only.then0 ?_ (by with_reducible assumption)) | (with_reducible refine Only.thenN ?_ (by with_reducible assumption) ?_) | (with_reducible refine Only.trans ?_ (by with_reducible assumption)) | (refine .inl ?_; first | rfl | (simp; done) | (simp [Ar.blk]; done)) | (refine .inr ?_; first | omega | (simp; done) | (simp; omega) | exact Only.size (by with_reducible assumption) | (refine Nat.le_trans (Only.size (by with_reducible assumption)) ?_; simp; done)))⟩
        case measure => simp [intOf]; omega
    · have tj : decide (j < n) = false := by simpa using hlt
      have e2 : cntB sg p (L.take j) = C := by rw [List.take_of_length_le (by rw [← HN.out]; omega), HC.out]
      rw [e2]
      clear e2
      go_wp2_with fail
      go_returns
      exact ⟨rfl, ho⟩

set_option maxHeartbeats 2000000 in
theorem r_find_any (h : R5At w rb sd most sg hv L) (ok : LvOk most sg L) (p : Int) (r : Int) (hr : (∃ x : Nat, r = x ∧ (p, x) ∈ L) ∨ (r = -1 ∧ has p L = false)) :
    Calls Try.prog 48 #[.pointer (some ⟨rb, 0, none⟩), .int .i64 p] w fun e w' => e = .returned (.int .i64 r) ∧ w = w' := by
  have hln := ok.len
  have hsm := ok.small
  obtain ⟨a, cap, hvv, hcap⟩ := own_slice h.own
  have c2 := h.c2.cell
  rw [hvv] at c2
  have hsame : ∀ (j : Nat) (x : Lvl), L[j]? = some x → x.1 = p → r = (x.2 : Int) := fun j x hj e => by
    rcases hr with ⟨y, rfl, hy⟩ | ⟨_, hh⟩
    · obtain ⟨i, hi⟩ := List.mem_iff_getElem?.1 hy
      have h1 := has_pos ok.hsg ok.srt hi rfl
      have h2 := has_pos ok.hsg ok.srt hj e
      simp only at h1
      rw [h1, ← h2, hj] at hi
      injection hi with hi
      rw [hi]
    · have := has_iff.2 ⟨x, List.mem_of_getElem? hj, e⟩
      rw [hh] at this; cases this
  have hnone : (∀ x ∈ L, x.1 ≠ p) → r = -1 := fun hn => by
    rcases hr with ⟨y, rfl, hy⟩ | ⟨e, _⟩
    · exact absurd rfl (hn _ hy)
    · exact e
  obtain ⟨n, hn⟩ : ∃ n, n = L.length := ⟨_, rfl⟩
  rw [← hn] at c2 hln hcap hvv
  have HH := Lib.hid h
  have HN := Lib.hid hn
  have HV := Lib.hid hvv
  have HS := Lib.hid hsame
  have HNO := Lib.hid hnone
  have zb := cell_lt c2
  clear h ok hn hvv hsame hnone hr
  go_enter Try.func48, Try.ntmps48
  go_wp2_with fail
  go_loop [5] (fun s5 => ∃ j : Nat, j ≤ n ∧ s5 = .int .i64 j ∧ ∀ x ∈ L.take j, x.1 ≠ p) (fun s => n - (intOf s).toNat)
  case atStart => exact ⟨0, by omega, rfl, by simp⟩
  case round =>
    obtain ⟨j, hj, rfl, hno⟩ := hrel
    by_cases hlt : j < n
    · have tj : decide (j < n) = true := by simpa using hlt
      obtain ⟨x, hx⟩ : ∃ x, L[j]? = some x := ⟨_, List.getElem?_eq_getElem (by rw [← HN.out]; exact hlt)⟩
      obtain ⟨g, cap', e, _, hg, v1, v2⟩ := HH.out.at_ hx
      rw [HV.out, ← HN.out] at e
      obtain ⟨rfl, rfl⟩ : a = some ⟨g, 0, none⟩ ∧ cap = cap' := by injection e with e1 e2 e3; exact ⟨e1, e3⟩
      have v1 := v1.cell
      have v2 := v2.cell
      have zg := cell_lt v1
      have ij : (0 : Int) ≤ (j : Int) ∧ (j : Int) < (n : Int) := by omega
      have w1 : IntKind.i64.wrap ((j : Int) + 1) = (j : Int) + 1 := by rw [IntKind.wrap_i64]; omega
      by_cases hb : x.1 = p
      · have hr := HS.out j x hx hb
        obtain ⟨xp, xr⟩ := x
        simp only at v1 v2 hb hr
        subst hb hr
        have t1 : (xp == xp) = true := by simp
        clear e hx hno
        go_wp2_with fail
        go_returns
        exact ⟨rfl, rfl⟩
      · have hno2 : ∀ y ∈ L.take (j + 1), y.1 ≠ p := fun y hy => by
          rw [List.take_add_one, hx] at hy
          simp only [Option.toList_some, List.mem_append, List.mem_singleton] at hy
          rcases hy with hy | rfl
          · exact hno y hy
          · exact hb
        have HNO2 := Lib.hid hno2
        obtain ⟨xp, xr⟩ := x
        simp only at v1 v2 hb
        have t1 : (xp == p) = false := by simpa using hb
        clear e hx hno hno2 hb
        go_wp2_with fail
        go_round
        case rel => exact ⟨j + 1, by omega, by go_num, HNO2.out⟩
        case measure => simp [intOf]; omega
    · have tj : decide (j < n) = false := by simpa using hlt
      have hr := HNO.out (by rw [List.take_of_length_le (by rw [← HN.out]; omega)] at hno; exact hno)
      subst hr
      clear hno
      go_wp2_with fail
      go_returns
      exact ⟨rfl, rfl⟩
theorem r_find (h : R5At w rb sd most sg hv L) (ok : LvOk most sg L) (p : Int) (x : Nat) (hx : (p, x) ∈ L) :
    Calls Try.prog 48 #[.pointer (some ⟨rb, 0, none⟩), .int .i64 p] w fun e w' => e = .returned (.int .i64 (x : Nat)) ∧ w = w' := r_find_any h ok p x (.inl ⟨x, rfl, hx⟩)
theorem r_find_no (h : R5At w rb sd most sg hv L) (ok : LvOk most sg L) (p : Int) (hx : has p L = false) :
    Calls Try.prog 48 #[.pointer (some ⟨rb, 0, none⟩), .int .i64 p] w fun e w' => e = .returned (.int .i64 (-1)) ∧ w = w' := r_find_any h ok p (-1) (.inr ⟨rfl, hx⟩)

theorem r_at_no (h : R5At w rb sd most sg hv L) (i : Int) (hi : i < 0 ∨ (L.length : Int) ≤ i) :
    Calls Try.prog 49 #[.pointer (some ⟨rb, 0, none⟩), .int .i64 i] w fun e w' => e = .returned (.tuple #[.int .i64 0, .bool false]) ∧ w = w' := by
  have c2 := h.c2.cell
  obtain ⟨a, cap, hvv, hcap⟩ := own_slice h.own
  rw [hvv] at c2
  have z1 := cell_lt c2
  generalize L.length = n at *
  clear h hvv
  by_cases h1 : i < 0
  · have t1 : decide (i < 0) = true := by simpa using h1
    clear hi
    go_enter Try.func49, Try.ntmps49
    go_wp2_with fail
    go_returns
    exact ⟨rfl, rfl⟩
  · have t1 : decide (i < 0) = false := by simpa using h1
    have t2 : decide ((n : Int) ≤ i) = true := by simp; omega
    clear hi
    go_enter Try.func49, Try.ntmps49
    go_wp2_with fail
    go_returns
    exact ⟨rfl, rfl⟩
theorem r_at (h : R5At w rb sd most sg hv L) (i : Nat) (x : Lvl) (hx : L[i]? = some x) :
    Calls Try.prog 49 #[.pointer (some ⟨rb, 0, none⟩), .int .i64 (i : Nat)] w fun e w' => e = .returned (.tuple #[.int .i64 x.1, .bool true]) ∧ w = w' := by
  have hkl := (List.getElem?_eq_some_iff.1 hx).1
  obtain ⟨g, cap, hvv, hcap, hg, v1, v2⟩ := h.at_ hx
  have c2 := h.c2.cell
  rw [hvv] at c2
  have v1 := v1.cell
  have z1 := cell_lt c2
  have z2 := cell_lt v1
  generalize L.length = n at *
  have ik : (0 : Int) ≤ (i : Int) ∧ (i : Int) < (n : Int) := by omega
  have t1 : decide ((i : Int) < 0) = false := by simp
  have t2 : decide (n ≤ i) = false := by simp; omega
  have t2' : decide ((n : Int) ≤ (i : Int)) = false := by simp; omega
  obtain ⟨xp, xr⟩ := x
  simp only at v1
  clear h hx hvv v2
  go_enter Try.func49, Try.ntmps49
  go_wp2_with fail
  go_returns
  exact ⟨rfl, rfl⟩
end
end Go.Proofs.Ytkglplngnjgnhaa
