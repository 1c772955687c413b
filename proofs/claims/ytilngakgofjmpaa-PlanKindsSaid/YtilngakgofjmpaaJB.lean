/- Plan: orders that are read; a book and the document's laid beside each other. No condition. -/
import Derived.Test.YtilngakgofjmpaaBk9
import Derived.Test.YtilngakgofjmpaaR6g
import Derived.Test.YtilngakgofjmpaaR6j
namespace Go.Proofs.Ytilngakgofjmpaa
set_option linter.unusedVariables false
set_option linter.unusedSimpArgs false
open Go.RowKit Go.Shelf
open Od (OrdR)

/-- Orders that are read, wherever they lie. -/
def OrdIn (w : World) (a : Option Addr) (L : List OrdR) : Prop := ∀ k o, L[k]? = some o → ∃ B off, a = some ⟨B, off, none⟩ ∧ B < w.heap.size ∧ w.cell? ⟨B, off + k * 5, none⟩ = some (.int .i64 o.i) ∧ w.cell? ⟨B, off + k * 5 + 1, none⟩ = some (.int .i64 o.c) ∧ w.cell? ⟨B, off + k * 5 + 2, none⟩ = some (.int .u8 o.s) ∧ w.cell? ⟨B, off + k * 5 + 3, none⟩ = some (.int .i64 o.p) ∧ w.cell? ⟨B, off + k * 5 + 4, none⟩ = some (.int .i64 o.q)
theorem OrdIn.only {w w' : World} {a : Option Addr} {L : List OrdR} (h : OrdIn w a L) {S : Nat → Prop} (o : Only S w w') (hS : ∀ i, i < w.heap.size → ¬ S i) : OrdIn w' a L := fun k x hk => by
  obtain ⟨B, off, h0, h1, c0, c1, c2, c3, c4⟩ := h k x hk
  have hs := hS B h1
  exact ⟨B, off, h0, Nat.lt_of_lt_of_le h1 o.size, o.cell c0 hs, o.cell c1 hs, o.cell c2 hs, o.cell c3 hs, o.cell c4 hs⟩
theorem OrdIn.of_slice {w : World} {a : Option Addr} {len cap : Nat} {rows : List (List Value)} (hs : SliceIn w a len cap [.i .i64, .i .i64, .i .u8, .i .i64, .i .i64] rows) : ∃ L : List OrdR, L.length = len ∧ OrdIn w a L ∧ ∀ o ∈ L, Wf o.i := by
  have hrow : ∀ (k : Nat) r, rows[k]? = some r → ∃ o : OrdR, r = [.int .i64 o.i, .int .i64 o.c, .int .u8 o.s, .int .i64 o.p, .int .i64 o.q] ∧ Wf o.i := fun k r hr => by
    obtain ⟨xi, _, rfl, hw0, hf⟩ := fits_i (hs.2.1 r (List.mem_of_getElem? hr))
    obtain ⟨xc, _, rfl, _, hf⟩ := fits_i hf
    obtain ⟨xs, _, rfl, _, hf⟩ := fits_i hf
    obtain ⟨xp, _, rfl, _, hf⟩ := fits_i hf
    obtain ⟨xq, _, rfl, _, hf⟩ := fits_i hf
    obtain rfl := fits_nil hf
    exact ⟨⟨xi, xc, xs, xp, xq⟩, rfl, hw0⟩
  have hall : ∀ rs : List (List Value), (∀ r ∈ rs, ∃ o : OrdR, r = [.int .i64 o.i, .int .i64 o.c, .int .u8 o.s, .int .i64 o.p, .int .i64 o.q] ∧ Wf o.i) → ∃ L : List OrdR, rs = L.map (fun o => [.int .i64 o.i, .int .i64 o.c, .int .u8 o.s, .int .i64 o.p, .int .i64 o.q]) ∧ ∀ o ∈ L, Wf o.i := by
    intro rs
    induction rs with
    | nil => exact fun _ => ⟨[], rfl, fun _ h => (by cases h)⟩
    | cons r t ih =>
      intro h
      obtain ⟨o, e, hw⟩ := h r (by simp)
      obtain ⟨L, e2, hw2⟩ := ih (fun r hr => h r (by simp [hr]))
      exact ⟨o :: L, by rw [e, e2]; rfl, fun x hx => by rcases List.mem_cons.1 hx with rfl | hx; exact hw; exact hw2 x hx⟩
  obtain ⟨L, e, hw⟩ := hall rows (fun r hr => by obtain ⟨k, hk⟩ := List.getElem?_of_mem hr; exact hrow k r hk)
  have hlen : L.length = len := by rw [← hs.1, e, List.length_map]
  refine ⟨L, hlen, fun k o hk => ?_, hw⟩
  have hkl := (List.getElem?_eq_some_iff.1 hk).1
  obtain ⟨B, off, ha, hB, hcell⟩ := hs.at_ (by omega) (by decide)
  have hr : rows[k]? = some [.int .i64 o.i, .int .i64 o.c, .int .u8 o.s, .int .i64 o.p, .int .i64 o.q] := by rw [e, List.getElem?_map, hk]; rfl
  have r0 := hcell k _ hr 0 _ rfl
  have r1 := hcell k _ hr 1 _ rfl
  have r2 := hcell k _ hr 2 _ rfl
  have r3 := hcell k _ hr 3 _ rfl
  have r4 := hcell k _ hr 4 _ rfl
  simp only [List.length_cons, List.length_nil, Nat.zero_add, Nat.reduceAdd, Nat.add_zero] at r0 r1 r2 r3 r4
  exact ⟨B, off, ha, hB, r0, r1, r2, r3, r4⟩
theorem OrdIn.of_own {w : World} {base : Nat} {e : TypeId} {a : Option Addr} {cap : Nat} {L : List OrdR} (h : w.ownsRow base e 5 (.slice a L.length cap) L.length (ordC L)) : OrdIn w a L := fun k o hk => by
  obtain ⟨va, ca, hv, _, hat⟩ := OrdAt.of_own h
  injection hv with e1 _ _
  obtain ⟨g, h0, h1, c0, c1, c2, c3, c4⟩ := hat k o hk
  exact ⟨g, 0, by rw [e1]; exact h0, h1, by rw [Nat.zero_add]; exact c0, by rw [Nat.zero_add]; exact c1, by rw [Nat.zero_add]; exact c2, by rw [Nat.zero_add]; exact c3, by rw [Nat.zero_add]; exact c4⟩

/-- Both books of a call's own: they hold the same, and lie apart, behind N0. -/
structure BP (w0 : World) (b r most room : Nat) (l : Bool → List OrdR) (T T6 : Nat → Prop) (w : World) : Prop where
  bk : Bk w b T most room l
  r6 : R6 w r T6 most room l
  lo : ∀ i, T i → w0.heap.size ≤ i ∧ ¬ T6 i
  lo6 : ∀ i, T6 i → w0.heap.size ≤ i
  only : Only (fun _ => False) w0 w
theorem BP.keep {w0 w w' : World} {b r most room : Nat} {l : Bool → List OrdR} {T T6 : Nat → Prop} (h : BP w0 b r most room l T T6 w) (o : Only (fun _ => False) w w') : BP w0 b r most room l T T6 w' :=
  ⟨h.bk.only o (fun _ _ => id), h.r6.only o (fun _ _ => id), h.lo, h.lo6, h.only.trans o⟩
/-- Both take an order. -/
theorem BP.insert {w0 w : World} {b r most room : Nat} {l : Bool → List OrdR} {T T6 : Nat → Prop} (h : BP w0 b r most room l T T6 w) (o : OrdR) (hw : Wf o.i) :
    Calls Try.prog 30 #[.pointer (some ⟨b, 0, none⟩), ordV o] w fun e w1 => e = .returned (.int .i64 (insE most room l o)) ∧ Only (fun _ => False) w0 w1 ∧ ∀ W, Only (fun _ => False) w1 W →
      Calls Try.prog 83 #[.pointer (some ⟨r, 0, none⟩), ordV o] W fun e w2 => e = .returned (.int .i64 (insE most room l o)) ∧ ∃ T' T6', BP w0 b r most room (insS most room l o) T' T6' w2 := by
  have g := h.bk.good
  refine (bk_insert h.bk o hw).mono fun e w1 hp => ?_
  obtain ⟨T', he, b1, o1, g1⟩ := hp
  have OW1 : Only (fun _ => False) w0 w1 := h.only.trans' o1 (fun i h1 h2 => by have := (h.lo i h2).1; omega)
  refine ⟨he, OW1, fun W oW => ?_⟩
  have r1 := (h.r6.only o1 (fun i hi hb => (h.lo i hb).2 hi)).only oW (fun _ _ => id)
  have b1' := b1.only oW (fun _ _ => id)
  have z0 := h.only.size
  have z1 := o1.size
  have z2 := oW.size
  have hlt6 := h.r6.lt
  obtain ⟨vv, q2, e6⟩ := r1
  refine (r6_insert q2 g o).mono fun e w2 hp => ?_
  obtain ⟨T6', he2, r2, o2, g2⟩ := hp
  rw [← e6] at o2 g2
  have n1 : ∀ i, T' i → T i ∨ (w.heap.size ≤ i ∧ i < W.heap.size) := fun i hi => by
    have := b1.lt i hi
    rcases g1 i hi with h | h
    · exact .inl h
    · exact .inr (by omega)
  refine ⟨he2, T', T6', ⟨b1'.only o2 (fun i hi hb => ?_), r2, fun i hi => ?_, fun i hi => ?_, (OW1.trans oW).trans' o2 (fun i h1 h2 => by have := h.lo6 i h2; omega)⟩⟩
  · rcases n1 i hi with h' | h'
    · exact (h.lo i h').2 hb
    · have := hlt6 i hb; omega
  · rcases n1 i hi with h' | h'
    · refine ⟨(h.lo i h').1, fun hb => ?_⟩
      rcases g2 i hb with hb | hb
      · exact (h.lo i h').2 hb
      · have := h.bk.lt i h'; omega
    · refine ⟨by omega, fun hb => ?_⟩
      rcases g2 i hb with hb | hb
      · have := hlt6 i hb; omega
      · omega
  · rcases g2 i hi with hb | hb
    · exact h.lo6 i hb
    · omega
/-- Orders put in one by one; those that may not rest are let by. -/
def laidL (most room : Nat) (L : List OrdR) : Bool → List OrdR := L.foldl (insS most room) (fun _ => [])
theorem laidL_snoc (most room : Nat) (L : List OrdR) (o : OrdR) : laidL most room (L ++ [o]) = insS most room (laidL most room L) o := by simp [laidL]
end Go.Proofs.Ytilngakgofjmpaa

/- Plan: the law's laid: a book of orders, and the document's beside it. Conditions: the orders are read; room and levels as New takes them. -/
namespace Go.Proofs.Ytilngakgofjmpaa
set_option linter.unusedVariables false
set_option linter.unusedSimpArgs false
open Go.RowKit Go.Shelf
open Od (OrdR)

def LaidPost (w : World) (most room : Nat) (L : List OrdR) (e : Ending) (w' : World) : Prop := ∃ b r T T6, e = .returned (.tuple #[.pointer (some ⟨b, 0, none⟩), .pointer (some ⟨r, 0, none⟩)]) ∧ BP w b r most room (laidL most room L) T T6 w'

set_option maxRecDepth 100000 in
set_option maxHeartbeats 4000000 in
theorem k_laid (w : World) (room most : Nat) (hr : room ≤ 256) (hm : most ≤ 128) (L : List OrdR) (a : Option Addr) (cap : Nat) (hL : OrdIn w a L) (hw : ∀ o ∈ L, Wf o.i) (hl : L.length ≤ 1000000000000000) :
    Calls Try.prog 52 #[.int .i64 room, .int .i64 most, .slice a L.length cap] w (LaidPost w most room L) := by
  obtain ⟨n, hn⟩ : ∃ n, n = L.length := ⟨_, rfl⟩
  rw [← hn] at hl ⊢
  have HN := Lib.hid hn
  have HL := Lib.hid hL
  have HW := Lib.hid hw
  have S0 := fun W => Lib.hid (k_new W room most hr hm)
  have S1 := fun W => Lib.hid (r6_new W room most hr hm)
  clear hn hL hw hr hm
  go_enter Try.func52, Try.ntmps52
  go_wp2_with fail
  refine (S0 _).out.mono ?_
  intro e w1 hq
  obtain ⟨b, T, rfl, B1, o1, k1⟩ := hq
  go_wp2_with fail
  refine (S1 _).out.mono ?_
  intro e w2 hq
  obtain ⟨r, T6, rfl, R2, o2, k2⟩ := hq
  have P0 : BP w b r most room (laidL most room (L.take 0)) T T6 w2 := ⟨B1.only o2 (fun _ _ => id), R2, fun i hi => ⟨k1 i hi, fun h => by have := B1.lt i hi; have := k2 i h; omega⟩, fun i hi => by have := k2 i hi; have := o1.size; omega, o1.trans o2⟩
  have P0 := Lib.hid P0
  clear B1 R2 o1 o2 k1 k2 S0 S1
  go_wp2_with fail
  go_loopw [12] (fun s wr => ∃ k : Nat, k ≤ n ∧ s = .int .i64 k ∧ ∃ T T6, BP w b r most room (laidL most room (L.take k)) T T6 wr) (fun s _ => n - (intOf s).toNat)
  case atStart => exact ⟨0, Nat.zero_le _, rfl, T, T6, P0.out⟩
  case round =>
    obtain ⟨k, hk, rfl, T, T6, hp⟩ := hrel
    have HP := Lib.hid hp
    by_cases hlt : k < n
    · have t1 : decide (k < n) = true := by simpa using hlt
      have i1 : (0 : Int) ≤ (k : Int) ∧ (k : Int) < (n : Int) := by omega
      have ww1 : IntKind.i64.wrap ((k : Int) + 1) = (k : Int) + 1 := by rw [IntKind.wrap_i64]; omega
      obtain ⟨x, hx⟩ : ∃ x, L[k]? = some x := ⟨_, List.getElem?_eq_getElem (by rw [← HN.out]; exact hlt)⟩
      have htk : L.take (k + 1) = L.take k ++ [x] := by rw [List.take_add_one, hx]; rfl
      obtain ⟨g, off, rfl, hg, c0, c1, c2, c3, c4⟩ := (HL.out.only hp.only (fun _ _ => id)) k x hx
      have HI := Lib.hid (hp.insert x (HW.out x (List.mem_of_getElem? hx)))
      have HNX := Lib.hid (show laidL most room (L.take (k + 1)) = insS most room (laidL most room (L.take k)) x by rw [htk, laidL_snoc])
      obtain ⟨v, hv⟩ : ∃ v, insE most room (laidL most room (L.take k)) x = v := ⟨_, rfl⟩
      rw [hv] at HI
      have hne : (v != v) = false := by simp
      obtain ⟨xi, xc, xs, xp, xq⟩ := x
      unfold ordV at HI
      simp only at c0 c1 c2 c3 c4 HI
      have HX := Lib.hid hx
      clear hp hx htk hv
      have HC := Lib.hid (⟨c0, c1, c2, c3, c4, hg⟩ : _ ∧ _ ∧ _ ∧ _ ∧ _ ∧ _)
      go_wp2_with fail
      refine HI.out.mono ?_
      intro e w3 hq
      obtain ⟨rfl, o3, hr⟩ := hq
      have HR := Lib.hid hr
      obtain ⟨g', off', e', hg', d0, d1, d2, d3, d4⟩ := (HL.out.only o3 (fun _ _ => id)) k _ HX.out
      injection e' with e'
      injection e' with e1 e2
      subst e1 e2
      simp only at d0 d1 d2 d3 d4
      clear hr c0 c1 c2 c3 c4 hg o3
      go_wp2_with fail
      refine (HR.out _ (by repeat' (first | (with_reducible exact Only.refl _ _) | (with_reducible assumption) | (refine Only.of_none ?_; with_reducible assumption) | (with_reducible refine Only.drewN ?_ _) | (with_reducible refine Only.drew ?_) | (with_reducible refine Only.alloc ?_ _) | (with_reducible refine Only.setCell ?_ ?_ _) | (with_reducible refine Only.then0 ?_ (by with_reducible assumption)) | (with_reducible refine Only.thenN ?_ (by with_reducible assumption) ?_) | (with_reducible refine Only.trans ?_ (by with_reducible assumption)) | (refine .inl ?_; first | rfl | (simp; done) | (simp [Ar.blk]; done)) | (refine .inr ?_; first | omega | (simp; done) | (simp; omega) | exact Only.size (by with_reducible assumption) | (refine Nat.le_trans (Only.size (by with_reducible assumption)) ?_; simp; done))))).mono ?_
      intro e w4 hq
      obtain ⟨rfl, T', T6', hp'⟩ := hq
      have HP' := Lib.hid hp'
      clear hp' d0 d1 d2 d3 d4
      go_wp2_with fail
      go_roundw
      case rel => exact ⟨k + 1, by omega, by go_num, T', T6', by rw [HNX.out]; exact HP'.out⟩
      case measure => simp [intOf]; omega
    · have t1 : decide (k < n) = false := by simpa using hlt
      obtain rfl : k = n := by omega
      clear hp
      go_wp2_with fail
      go_returns
      have hp := HP.out
      rw [List.take_of_length_le (by rw [← HN.out]; exact Nat.le_refl _)] at hp
      exact ⟨b, r, T, T6, rfl, hp⟩
end Go.Proofs.Ytilngakgofjmpaa
