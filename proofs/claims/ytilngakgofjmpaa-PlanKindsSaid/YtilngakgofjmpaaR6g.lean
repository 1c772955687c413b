/- The document's book: Insert. Conditions: a book as its New lays it. -/
import Derived.Test.YtilngakgofjmpaaR6f
import Derived.Deep.RegionHeld3
namespace Go.Proofs.Ytilngakgofjmpaa
set_option linter.unusedVariables false
set_option linter.unusedSimpArgs false
open Go.RowKit Go.Shelf
open Od (OrdR)

/-- What a call that may turn the document's book leaves. -/
def R6Post (w : World) (r : Nat) (T : Nat → Prop) (most room : Nat) (l : Bool → List OrdR) (v : Value) (e : Ending) (w' : World) : Prop :=
  ∃ T', e = .returned v ∧ R6 w' r T' most room l ∧ Only T w w' ∧ ∀ i, T' i → T i ∨ w.heap.size ≤ i
def offQ (q : Bool) : Nat := if q then 3 else 2

section
variable {w : World} {r most room : Nat} {vv : Bool → Value} {T : Nat → Prop} {l : Bool → List OrdR}
theorem R6M.stay (h : R6M w r vv most room l) {v : Value} {e : Ending} {w' : World} (he : e = .returned v) (o : Only (fun _ => False) w w') : R6Post w r (R6T r vv) most room l v e w' :=
  ⟨_, he, ⟨vv, h.only o (fun _ _ => id), rfl⟩, Only.of_none o, fun _ hi => .inl hi⟩
theorem R6M.cq (h : R6M w r vv most room l) (q : Bool) : Cell w r (offQ q) (vv q) := by cases q; exact h.c2; exact h.c3
/-- A side's list is put in anew. -/
theorem R6M.put (h : R6M w r vv most room l) {W : World} (o : Only (fun _ => False) w W) {v : Value} {L : List OrdR} (hv : W.ownsRow w.heap.size 54 5 v L.length (ordC L)) (q : Bool) {x : Value} {e : Ending} (he : e = .returned x) :
    R6Post w r (R6T r vv) most room (setS l q L) x e (W.setCell ⟨r, offQ q, none⟩ v) := by
  have hr := h.c0.lt
  have hW := h.only o (fun _ _ => id)
  have oS := (Only.refl (· = r) W).setCell (p := ⟨r, offQ q, none⟩) (.inl rfl) v
  have hvb : ∀ i, v.ownBlock = some i → w.heap.size ≤ i := fun i e => (hv.lt i e).1
  have hlo : ∀ k i, (vv k).ownBlock = some i → i < w.heap.size := fun k i e => ((h.own k).lt i e).2
  refine ⟨R6T r (setS vv q v), he, ⟨setS vv q v, ⟨?_, ?_, ?_, ?_, fun k => ?_, fun k g hg => ?_, fun g hg => ?_⟩, rfl⟩, ?_, ?_⟩
  · exact hW.c0.far (off_ne (by cases q <;> decide)) v
  · exact hW.c1.far (off_ne (by cases q <;> decide)) v
  · cases q
    · exact hW.c2.set v
    · exact hW.c2.far (off_ne (b := r) (o := 3) (o' := 2) (by decide)) v
  · cases q
    · exact hW.c3.far (off_ne (b := r) (o := 2) (o' := 3) (by decide)) v
    · exact hW.c3.set v
  · by_cases e : k = q
    · subst e
      rw [setS_same, setS_same]
      exact ownsRow_base (ownsRow_apart hv oS (fun i hi e => by have := hvb i hi; omega)) (Nat.zero_le _)
    · rw [setS_other e, setS_other e]
      exact ownsRow_apart (hW.own k) oS (fun i hi e => hW.sep k i hi e)
  · by_cases e : k = q
    · subst e; rw [setS_same] at hg; have := hvb g hg; omega
    · rw [setS_other e] at hg; exact h.sep k g hg
  · cases q
    · rw [setS_same] at hg
      rw [setS_other (by decide)]
      intro e
      have h1 := hvb g hg; have h2 := hlo true g e; omega
    · rw [setS_other (by decide)] at hg
      rw [setS_same]
      intro e
      have h1 := hvb g e; have h2 := hlo false g hg; omega
  · exact (Only.of_none o).trans (oS.mono fun i _ hi => .inl hi)
  · rintro i (rfl | ⟨k, hk⟩)
    · exact .inl (.inl rfl)
    · by_cases e : k = q
      · subst e; rw [setS_same] at hk; exact .inr (hvb i hk)
      · rw [setS_other e] at hk; exact .inl (.inr ⟨k, hk⟩)

theorem getV_none {k : Int} (h : getL l k = none) : getV l k = .tuple #[.agg #[.int .i64 0, .int .i64 0, .int .u8 0, .int .i64 0, .int .i64 0], .bool false] := by unfold getV; rw [h]; rfl
theorem getV_some {k : Int} {o : OrdR} (h : getL l k = some o) : getV l k = .tuple #[.agg #[.int .i64 o.i, .int .i64 o.c, .int .u8 o.s, .int .i64 o.p, .int .i64 o.q], .bool true] := by unfold getV; rw [h]; rfl
theorem mayB_side {o : OrdR} (h : mayB o = true) : o.s = sdN (qOf o.s) := (sdN_qOf (mayB_parts h).2.2.1).symm

set_option maxRecDepth 100000 in
set_option maxHeartbeats 4000000 in
theorem r6_insert (h : R6M w r vv most room l) (g : Good most room l) (o : OrdR) :
    Calls Try.prog 83 #[.pointer (some ⟨r, 0, none⟩), ordV o] w (R6Post w r (R6T r vv) most room (insS most room l o) (.int .i64 (insE most room l o))) := by
  have hz : ∀ q, (l q).length ≤ 1000000 := fun q => by have := g.le q; omega
  have HM := Lib.hid fun W => r6_may o W
  have HG := Lib.hid fun W (ow : Only (fun _ => False) w W) => r6_get (h.only ow fun _ _ => id) hz o.i
  have stay : ∀ {E : Int}, insE most room l o = E → E ≠ 0 → ∀ (e : Ending) (w' : World), e = .returned (.int .i64 E) ∧ Only (fun _ => False) w w' → R6Post w r (R6T r vv) most room (insS most room l o) (.int .i64 (insE most room l o)) e w' := fun hE h0 e w' ⟨he, ho⟩ => by
    unfold insS
    rw [hE, if_neg h0]
    exact h.stay he ho
  cases hm : mayB o with
  | false =>
    have e : insE most room l o = 1 := by unfold insE; rw [if_pos hm]
    refine Calls.mono ?_ (stay e (by decide))
    rw [hm] at HM
    obtain ⟨oi, oc, os, op, oq⟩ := o
    unfold ordV at HM ⊢
    simp only at HM ⊢
    clear h g hz stay hm e HG
    go_enter Try.func83, Try.ntmps83
    go_wp2_with fail
    refine (HM.out _).mono ?_
    rintro e w1 ⟨rfl, o1⟩
    go_wp2_with fail
    go_returns
    exact ⟨rfl, by repeat' (first | (with_reducible exact Only.refl _ _) | (with_reducible assumption) | (refine Only.of_none ?_; with_reducible assumption) | (with_reducible refine Only.drewN ?_ _) | (with_reducible refine Only.drew ?_) | (with_reducible refine Only.alloc ?_ _) | (with_reducible refine Only.setCell ?_ ?_ _) | (with_reducible refine Only.then0 ?_ (by with_reducible assumption)) | (with_reducible refine Only.thenN ?_ (by with_reducible assumption) ?_) | (with_reducible refine Only.trans ?_ (by with_reducible assumption)) | (refine .inl ?_; first | rfl | (simp; done) | (simp [Ar.blk]; done)) | (refine .inr ?_; first | omega | (simp; done) | (simp; omega) | exact Only.size (by with_reducible assumption) | (refine Nat.le_trans (Only.size (by with_reducible assumption)) ?_; simp; done)))⟩
  | true =>
    rw [hm] at HM
    cases hg : getL l o.i with
    | some x =>
      have e : insE most room l o = 62 := by unfold insE; rw [if_neg (by rw [hm]; decide), hg]; rfl
      refine Calls.mono ?_ (stay e (by decide))
      rw [getV_some hg] at HG
      obtain ⟨oi, oc, os, op, oq⟩ := o
      unfold ordV at HM ⊢
      simp only at HM HG ⊢
      have h5 := Five.new w (.int .i64 oi) (.int .i64 oc) (.int .u8 os) (.int .i64 op) (.int .i64 oq) 54
      clear h g hz stay hm e hg
      go_enter Try.func83, Try.ntmps83
      go_wp2_with fail
      refine (HM.out _).mono ?_
      rintro e w1 ⟨rfl, o1⟩
      have h5 := h5.only o1 id; have y0 := h5.c0.cell; have y1 := h5.c1.cell; have y2 := h5.c2.cell; have y3 := h5.c3.cell; have y4 := h5.c4.cell; have yz := cell_lt y0
      go_wp2_with fail
      refine (HG.out _ (by repeat' (first | (with_reducible exact Only.refl _ _) | (with_reducible assumption) | (refine Only.of_none ?_; with_reducible assumption) | (with_reducible refine Only.drewN ?_ _) | (with_reducible refine Only.drew ?_) | (with_reducible refine Only.alloc ?_ _) | (with_reducible refine Only.setCell ?_ ?_ _) | (with_reducible refine Only.then0 ?_ (by with_reducible assumption)) | (with_reducible refine Only.thenN ?_ (by with_reducible assumption) ?_) | (with_reducible refine Only.trans ?_ (by with_reducible assumption)) | (refine .inl ?_; first | rfl | (simp; done) | (simp [Ar.blk]; done)) | (refine .inr ?_; first | omega | (simp; done) | (simp; omega) | exact Only.size (by with_reducible assumption) | (refine Nat.le_trans (Only.size (by with_reducible assumption)) ?_; simp; done))))).mono ?_
      rintro e w2 ⟨rfl, o2⟩
      clear h5
      go_wp2_with fail
      go_returns
      exact ⟨rfl, by repeat' (first | (with_reducible exact Only.refl _ _) | (with_reducible assumption) | (refine Only.of_none ?_; with_reducible assumption) | (with_reducible refine Only.drewN ?_ _) | (with_reducible refine Only.drew ?_) | (with_reducible refine Only.alloc ?_ _) | (with_reducible refine Only.setCell ?_ ?_ _) | (with_reducible refine Only.then0 ?_ (by with_reducible assumption)) | (with_reducible refine Only.thenN ?_ (by with_reducible assumption) ?_) | (with_reducible refine Only.trans ?_ (by with_reducible assumption)) | (refine .inl ?_; first | rfl | (simp; done) | (simp [Ar.blk]; done)) | (refine .inr ?_; first | omega | (simp; done) | (simp; omega) | exact Only.size (by with_reducible assumption) | (refine Nat.le_trans (Only.size (by with_reducible assumption)) ?_; simp; done)))⟩
    | none =>
      have hi : insE most room l o = fitsE most room l (qOf o.s) o.p := by unfold insE; rw [if_neg (by rw [hm]; decide), hg]; rfl
      have hside := mayB_side hm
      obtain ⟨q, hq⟩ : ∃ q, q = qOf o.s := ⟨_, rfl⟩
      rw [← hq] at hi hside
      rw [getV_none hg] at HG
      have HF := Lib.hid fun W (ow : Only (fun _ => False) w W) => r6_fits (h.only ow fun _ _ => id) g q o.p
      obtain ⟨E, hE⟩ : ∃ E, E = fitsE most room l q o.p := ⟨_, rfl⟩
      rw [← hE] at hi HF
      by_cases h0 : E = 0
      · have hS : insS most room l o = setS l q (insL (sgn q) o (l q)) := by unfold insS; rw [hi, if_pos h0, hq]
        have hlen := g.le q
        have HW := Lib.hid fun W (ow : Only (fun _ => False) w W) => r6_with ((h.only ow fun _ _ => id).own q) (by omega) q o hside (g.srt q)
        have HP := Lib.hid fun W (ow : Only (fun _ => False) w W) v (hv : W.ownsRow w.heap.size 54 5 v (insL (sgn q) o (l q)).length (ordC (insL (sgn q) o (l q)))) => h.put ow hv q (x := .int .i64 0) (e := .returned (.int .i64 0)) rfl
        have hcq := h.cq q
        rw [hi, hS, h0]
        rw [h0] at HF
        obtain ⟨M, hM⟩ : ∃ M, M = insL (sgn q) o (l q) := ⟨_, rfl⟩
        rw [← hM] at HW HP ⊢
        obtain ⟨a, cap, hvv, _⟩ := own_slice (h.own q)
        rw [hvv] at HW hcq
        obtain ⟨n, hn⟩ : ∃ n, n = (l q).length := ⟨_, rfl⟩
        rw [← hn] at HW hcq
        have c2 := hcq.cell
        have f2 := hcq.free
        have z2 := cell_lt c2
        have HR := Lib.hid hcq
        obtain ⟨oi, oc, os, op, oq⟩ := o
        unfold ordV at HM HW ⊢
        simp only at HM HG HF HW hside ⊢
        have h5 := Five.new w (.int .i64 oi) (.int .i64 oc) (.int .u8 os) (.int .i64 op) (.int .i64 oq) 54
        clear hz stay hm hg hi hE h0 hS hM hvv hn hq hcq hlen g
        cases q with
        | false =>
          subst hside
          have HF := Lib.hid fun W ow => (show Calls Try.prog 93 #[.pointer (some ⟨r, 0, none⟩), .int .u8 1, .int .i64 op] W _ from HF.out W ow)
          have c2 : w.cell? ⟨r, 2, none⟩ = some (.slice a n cap) := c2
          have HR := Lib.hid (show Cell w r 2 (.slice a n cap) from HR.out)
          have HP := Lib.hid fun W ow v hv => (show R6Post w r (R6T r vv) most room (setS l false M) (.int .i64 0) (.returned (.int .i64 0)) (W.setCell ⟨r, 2, none⟩ v) from HP.out W ow v hv)
          clear f2
          go_enter Try.func83, Try.ntmps83
          go_wp2_with fail
          refine (HM.out _).mono ?_
          rintro e w1 ⟨rfl, o1⟩
          have h5 := h5.only o1 id; have y0 := h5.c0.cell; have y1 := h5.c1.cell; have y2 := h5.c2.cell; have y3 := h5.c3.cell; have y4 := h5.c4.cell; have yz := cell_lt y0
          go_wp2_with fail
          refine (HG.out _ (by repeat' (first | (with_reducible exact Only.refl _ _) | (with_reducible assumption) | (refine Only.of_none ?_; with_reducible assumption) | (with_reducible refine Only.drewN ?_ _) | (with_reducible refine Only.drew ?_) | (with_reducible refine Only.alloc ?_ _) | (with_reducible refine Only.setCell ?_ ?_ _) | (with_reducible refine Only.then0 ?_ (by with_reducible assumption)) | (with_reducible refine Only.thenN ?_ (by with_reducible assumption) ?_) | (with_reducible refine Only.trans ?_ (by with_reducible assumption)) | (refine .inl ?_; first | rfl | (simp; done) | (simp [Ar.blk]; done)) | (refine .inr ?_; first | omega | (simp; done) | (simp; omega) | exact Only.size (by with_reducible assumption) | (refine Nat.le_trans (Only.size (by with_reducible assumption)) ?_; simp; done))))).mono ?_
          rintro e w2 ⟨rfl, o2⟩
          have h5 := h5.only o2 id; have y0 := h5.c0.cell; have y1 := h5.c1.cell; have y2 := h5.c2.cell; have y3 := h5.c3.cell; have y4 := h5.c4.cell; have yz := cell_lt y0
          go_wp2_with fail
          refine (HF.out _ (by repeat' (first | (with_reducible exact Only.refl _ _) | (with_reducible assumption) | (refine Only.of_none ?_; with_reducible assumption) | (with_reducible refine Only.drewN ?_ _) | (with_reducible refine Only.drew ?_) | (with_reducible refine Only.alloc ?_ _) | (with_reducible refine Only.setCell ?_ ?_ _) | (with_reducible refine Only.then0 ?_ (by with_reducible assumption)) | (with_reducible refine Only.thenN ?_ (by with_reducible assumption) ?_) | (with_reducible refine Only.trans ?_ (by with_reducible assumption)) | (refine .inl ?_; first | rfl | (simp; done) | (simp [Ar.blk]; done)) | (refine .inr ?_; first | omega | (simp; done) | (simp; omega) | exact Only.size (by with_reducible assumption) | (refine Nat.le_trans (Only.size (by with_reducible assumption)) ?_; simp; done))))).mono ?_
          rintro e w3 ⟨rfl, o3⟩
          have h5 := (h5.only ((Only.refl (fun _ => False) w2).alloc _) id).only o3 id; have y0 := h5.c0.cell; have y1 := h5.c1.cell; have y2 := h5.c2.cell; have y3 := h5.c3.cell; have y4 := h5.c4.cell; have yz := cell_lt y0
          go_wp2_with fail
          have cr := ((show Only (fun _ => False) w w3 by repeat' (first | (with_reducible exact Only.refl _ _) | (with_reducible assumption) | (refine Only.of_none ?_; with_reducible assumption) | (with_reducible refine Only.drewN ?_ _) | (with_reducible refine Only.drew ?_) | (with_reducible refine Only.alloc ?_ _) | (with_reducible refine Only.setCell ?_ ?_ _) | (with_reducible refine Only.then0 ?_ (by with_reducible assumption)) | (with_reducible refine Only.thenN ?_ (by with_reducible assumption) ?_) | (with_reducible refine Only.trans ?_ (by with_reducible assumption)) | (refine .inl ?_; first | rfl | (simp; done) | (simp [Ar.blk]; done)) | (refine .inr ?_; first | omega | (simp; done) | (simp; omega) | exact Only.size (by with_reducible assumption) | (refine Nat.le_trans (Only.size (by with_reducible assumption)) ?_; simp; done)))).cell c2 id)
          have HO3 := Lib.hid (show Only (fun _ => False) w w3 by repeat' (first | (with_reducible exact Only.refl _ _) | (with_reducible assumption) | (refine Only.of_none ?_; with_reducible assumption) | (with_reducible refine Only.drewN ?_ _) | (with_reducible refine Only.drew ?_) | (with_reducible refine Only.alloc ?_ _) | (with_reducible refine Only.setCell ?_ ?_ _) | (with_reducible refine Only.then0 ?_ (by with_reducible assumption)) | (with_reducible refine Only.thenN ?_ (by with_reducible assumption) ?_) | (with_reducible refine Only.trans ?_ (by with_reducible assumption)) | (refine .inl ?_; first | rfl | (simp; done) | (simp [Ar.blk]; done)) | (refine .inr ?_; first | omega | (simp; done) | (simp; omega) | exact Only.size (by with_reducible assumption) | (refine Nat.le_trans (Only.size (by with_reducible assumption)) ?_; simp; done))))
          clear h5 HM HG HF
          go_region_with (first | (go_at_call 132; refine (HW.out _ (by have := HO3.out; repeat' (first | (with_reducible exact Only.refl _ _) | (with_reducible assumption) | (refine Only.of_none ?_; with_reducible assumption) | (with_reducible refine Only.drewN ?_ _) | (with_reducible refine Only.drew ?_) | (with_reducible refine Only.alloc ?_ _) | (with_reducible refine Only.setCell ?_ ?_ _) | (with_reducible refine Only.then0 ?_ (by with_reducible assumption)) | (with_reducible refine Only.thenN ?_ (by with_reducible assumption) ?_) | (with_reducible refine Only.trans ?_ (by with_reducible assumption)) | (refine .inl ?_; first | rfl | (simp; done) | (simp [Ar.blk]; done)) | (refine .inr ?_; first | omega | (simp; done) | (simp; omega) | exact Only.size (by with_reducible assumption) | (refine Nat.le_trans (Only.size (by with_reducible assumption)) ?_; simp; done))))).mono ?_; rintro e w7 ⟨v7, rfl, hv7, o7⟩; obtain ⟨b7, d7, rfl, _⟩ := own_slice hv7; have fr := (HR.out.only (show Only (fun _ => False) w w7 by have := HO3.out; repeat' (first | (with_reducible exact Only.refl _ _) | (with_reducible assumption) | (refine Only.of_none ?_; with_reducible assumption) | (with_reducible refine Only.drewN ?_ _) | (with_reducible refine Only.drew ?_) | (with_reducible refine Only.alloc ?_ _) | (with_reducible refine Only.setCell ?_ ?_ _) | (with_reducible refine Only.then0 ?_ (by with_reducible assumption)) | (with_reducible refine Only.thenN ?_ (by with_reducible assumption) ?_) | (with_reducible refine Only.trans ?_ (by with_reducible assumption)) | (refine .inl ?_; first | rfl | (simp; done) | (simp [Ar.blk]; done)) | (refine .inr ?_; first | omega | (simp; done) | (simp; omega) | exact Only.size (by with_reducible assumption) | (refine Nat.le_trans (Only.size (by with_reducible assumption)) ?_; simp; done)))) id).free; have zr := (HR.out.only (show Only (fun _ => False) w w7 by have := HO3.out; repeat' (first | (with_reducible exact Only.refl _ _) | (with_reducible assumption) | (refine Only.of_none ?_; with_reducible assumption) | (with_reducible refine Only.drewN ?_ _) | (with_reducible refine Only.drew ?_) | (with_reducible refine Only.alloc ?_ _) | (with_reducible refine Only.setCell ?_ ?_ _) | (with_reducible refine Only.then0 ?_ (by with_reducible assumption)) | (with_reducible refine Only.thenN ?_ (by with_reducible assumption) ?_) | (with_reducible refine Only.trans ?_ (by with_reducible assumption)) | (refine .inl ?_; first | rfl | (simp; done) | (simp [Ar.blk]; done)) | (refine .inr ?_; first | omega | (simp; done) | (simp; omega) | exact Only.size (by with_reducible assumption) | (refine Nat.le_trans (Only.size (by with_reducible assumption)) ?_; simp; done)))) id).lt; have cr7 := (HR.out.only (show Only (fun _ => False) w w7 by have := HO3.out; repeat' (first | (with_reducible exact Only.refl _ _) | (with_reducible assumption) | (refine Only.of_none ?_; with_reducible assumption) | (with_reducible refine Only.drewN ?_ _) | (with_reducible refine Only.drew ?_) | (with_reducible refine Only.alloc ?_ _) | (with_reducible refine Only.setCell ?_ ?_ _) | (with_reducible refine Only.then0 ?_ (by with_reducible assumption)) | (with_reducible refine Only.thenN ?_ (by with_reducible assumption) ?_) | (with_reducible refine Only.trans ?_ (by with_reducible assumption)) | (refine .inl ?_; first | rfl | (simp; done) | (simp [Ar.blk]; done)) | (refine .inr ?_; first | omega | (simp; done) | (simp; omega) | exact Only.size (by with_reducible assumption) | (refine Nat.le_trans (Only.size (by with_reducible assumption)) ?_; simp; done)))) id).cell; have HV7 := Lib.hid hv7; clear hv7))
          all_goals (
            go_wp2_with fail
            go_returns
            exact HP.out _ (by have := HO3.out; repeat' (first | (with_reducible exact Only.refl _ _) | (with_reducible assumption) | (refine Only.of_none ?_; with_reducible assumption) | (with_reducible refine Only.drewN ?_ _) | (with_reducible refine Only.drew ?_) | (with_reducible refine Only.alloc ?_ _) | (with_reducible refine Only.setCell ?_ ?_ _) | (with_reducible refine Only.then0 ?_ (by with_reducible assumption)) | (with_reducible refine Only.thenN ?_ (by with_reducible assumption) ?_) | (with_reducible refine Only.trans ?_ (by with_reducible assumption)) | (refine .inl ?_; first | rfl | (simp; done) | (simp [Ar.blk]; done)) | (refine .inr ?_; first | omega | (simp; done) | (simp; omega) | exact Only.size (by with_reducible assumption) | (refine Nat.le_trans (Only.size (by with_reducible assumption)) ?_; simp; done)))) _ (ownsRow_base HV7.out HO3.out.size))
        | true =>
          subst hside
          have HF := Lib.hid fun W ow => (show Calls Try.prog 93 #[.pointer (some ⟨r, 0, none⟩), .int .u8 2, .int .i64 op] W _ from HF.out W ow)
          have c2 : w.cell? ⟨r, 3, none⟩ = some (.slice a n cap) := c2
          have HR := Lib.hid (show Cell w r 3 (.slice a n cap) from HR.out)
          have HP := Lib.hid fun W ow v hv => (show R6Post w r (R6T r vv) most room (setS l true M) (.int .i64 0) (.returned (.int .i64 0)) (W.setCell ⟨r, 3, none⟩ v) from HP.out W ow v hv)
          clear f2
          go_enter Try.func83, Try.ntmps83
          go_wp2_with fail
          refine (HM.out _).mono ?_
          rintro e w1 ⟨rfl, o1⟩
          have h5 := h5.only o1 id; have y0 := h5.c0.cell; have y1 := h5.c1.cell; have y2 := h5.c2.cell; have y3 := h5.c3.cell; have y4 := h5.c4.cell; have yz := cell_lt y0
          go_wp2_with fail
          refine (HG.out _ (by repeat' (first | (with_reducible exact Only.refl _ _) | (with_reducible assumption) | (refine Only.of_none ?_; with_reducible assumption) | (with_reducible refine Only.drewN ?_ _) | (with_reducible refine Only.drew ?_) | (with_reducible refine Only.alloc ?_ _) | (with_reducible refine Only.setCell ?_ ?_ _) | (with_reducible refine Only.then0 ?_ (by with_reducible assumption)) | (with_reducible refine Only.thenN ?_ (by with_reducible assumption) ?_) | (with_reducible refine Only.trans ?_ (by with_reducible assumption)) | (refine .inl ?_; first | rfl | (simp; done) | (simp [Ar.blk]; done)) | (refine .inr ?_; first | omega | (simp; done) | (simp; omega) | exact Only.size (by with_reducible assumption) | (refine Nat.le_trans (Only.size (by with_reducible assumption)) ?_; simp; done))))).mono ?_
          rintro e w2 ⟨rfl, o2⟩
          have h5 := h5.only o2 id; have y0 := h5.c0.cell; have y1 := h5.c1.cell; have y2 := h5.c2.cell; have y3 := h5.c3.cell; have y4 := h5.c4.cell; have yz := cell_lt y0
          go_wp2_with fail
          refine (HF.out _ (by repeat' (first | (with_reducible exact Only.refl _ _) | (with_reducible assumption) | (refine Only.of_none ?_; with_reducible assumption) | (with_reducible refine Only.drewN ?_ _) | (with_reducible refine Only.drew ?_) | (with_reducible refine Only.alloc ?_ _) | (with_reducible refine Only.setCell ?_ ?_ _) | (with_reducible refine Only.then0 ?_ (by with_reducible assumption)) | (with_reducible refine Only.thenN ?_ (by with_reducible assumption) ?_) | (with_reducible refine Only.trans ?_ (by with_reducible assumption)) | (refine .inl ?_; first | rfl | (simp; done) | (simp [Ar.blk]; done)) | (refine .inr ?_; first | omega | (simp; done) | (simp; omega) | exact Only.size (by with_reducible assumption) | (refine Nat.le_trans (Only.size (by with_reducible assumption)) ?_; simp; done))))).mono ?_
          rintro e w3 ⟨rfl, o3⟩
          have h5 := (h5.only ((Only.refl (fun _ => False) w2).alloc _) id).only o3 id; have y0 := h5.c0.cell; have y1 := h5.c1.cell; have y2 := h5.c2.cell; have y3 := h5.c3.cell; have y4 := h5.c4.cell; have yz := cell_lt y0
          go_wp2_with fail
          have cr := ((show Only (fun _ => False) w w3 by repeat' (first | (with_reducible exact Only.refl _ _) | (with_reducible assumption) | (refine Only.of_none ?_; with_reducible assumption) | (with_reducible refine Only.drewN ?_ _) | (with_reducible refine Only.drew ?_) | (with_reducible refine Only.alloc ?_ _) | (with_reducible refine Only.setCell ?_ ?_ _) | (with_reducible refine Only.then0 ?_ (by with_reducible assumption)) | (with_reducible refine Only.thenN ?_ (by with_reducible assumption) ?_) | (with_reducible refine Only.trans ?_ (by with_reducible assumption)) | (refine .inl ?_; first | rfl | (simp; done) | (simp [Ar.blk]; done)) | (refine .inr ?_; first | omega | (simp; done) | (simp; omega) | exact Only.size (by with_reducible assumption) | (refine Nat.le_trans (Only.size (by with_reducible assumption)) ?_; simp; done)))).cell c2 id)
          have HO3 := Lib.hid (show Only (fun _ => False) w w3 by repeat' (first | (with_reducible exact Only.refl _ _) | (with_reducible assumption) | (refine Only.of_none ?_; with_reducible assumption) | (with_reducible refine Only.drewN ?_ _) | (with_reducible refine Only.drew ?_) | (with_reducible refine Only.alloc ?_ _) | (with_reducible refine Only.setCell ?_ ?_ _) | (with_reducible refine Only.then0 ?_ (by with_reducible assumption)) | (with_reducible refine Only.thenN ?_ (by with_reducible assumption) ?_) | (with_reducible refine Only.trans ?_ (by with_reducible assumption)) | (refine .inl ?_; first | rfl | (simp; done) | (simp [Ar.blk]; done)) | (refine .inr ?_; first | omega | (simp; done) | (simp; omega) | exact Only.size (by with_reducible assumption) | (refine Nat.le_trans (Only.size (by with_reducible assumption)) ?_; simp; done))))
          clear h5 HM HG HF
          go_region_with (first | (go_at_call 132; refine (HW.out _ (by have := HO3.out; repeat' (first | (with_reducible exact Only.refl _ _) | (with_reducible assumption) | (refine Only.of_none ?_; with_reducible assumption) | (with_reducible refine Only.drewN ?_ _) | (with_reducible refine Only.drew ?_) | (with_reducible refine Only.alloc ?_ _) | (with_reducible refine Only.setCell ?_ ?_ _) | (with_reducible refine Only.then0 ?_ (by with_reducible assumption)) | (with_reducible refine Only.thenN ?_ (by with_reducible assumption) ?_) | (with_reducible refine Only.trans ?_ (by with_reducible assumption)) | (refine .inl ?_; first | rfl | (simp; done) | (simp [Ar.blk]; done)) | (refine .inr ?_; first | omega | (simp; done) | (simp; omega) | exact Only.size (by with_reducible assumption) | (refine Nat.le_trans (Only.size (by with_reducible assumption)) ?_; simp; done))))).mono ?_; rintro e w7 ⟨v7, rfl, hv7, o7⟩; obtain ⟨b7, d7, rfl, _⟩ := own_slice hv7; have fr := (HR.out.only (show Only (fun _ => False) w w7 by have := HO3.out; repeat' (first | (with_reducible exact Only.refl _ _) | (with_reducible assumption) | (refine Only.of_none ?_; with_reducible assumption) | (with_reducible refine Only.drewN ?_ _) | (with_reducible refine Only.drew ?_) | (with_reducible refine Only.alloc ?_ _) | (with_reducible refine Only.setCell ?_ ?_ _) | (with_reducible refine Only.then0 ?_ (by with_reducible assumption)) | (with_reducible refine Only.thenN ?_ (by with_reducible assumption) ?_) | (with_reducible refine Only.trans ?_ (by with_reducible assumption)) | (refine .inl ?_; first | rfl | (simp; done) | (simp [Ar.blk]; done)) | (refine .inr ?_; first | omega | (simp; done) | (simp; omega) | exact Only.size (by with_reducible assumption) | (refine Nat.le_trans (Only.size (by with_reducible assumption)) ?_; simp; done)))) id).free; have zr := (HR.out.only (show Only (fun _ => False) w w7 by have := HO3.out; repeat' (first | (with_reducible exact Only.refl _ _) | (with_reducible assumption) | (refine Only.of_none ?_; with_reducible assumption) | (with_reducible refine Only.drewN ?_ _) | (with_reducible refine Only.drew ?_) | (with_reducible refine Only.alloc ?_ _) | (with_reducible refine Only.setCell ?_ ?_ _) | (with_reducible refine Only.then0 ?_ (by with_reducible assumption)) | (with_reducible refine Only.thenN ?_ (by with_reducible assumption) ?_) | (with_reducible refine Only.trans ?_ (by with_reducible assumption)) | (refine .inl ?_; first | rfl | (simp; done) | (simp [Ar.blk]; done)) | (refine .inr ?_; first | omega | (simp; done) | (simp; omega) | exact Only.size (by with_reducible assumption) | (refine Nat.le_trans (Only.size (by with_reducible assumption)) ?_; simp; done)))) id).lt; have cr7 := (HR.out.only (show Only (fun _ => False) w w7 by have := HO3.out; repeat' (first | (with_reducible exact Only.refl _ _) | (with_reducible assumption) | (refine Only.of_none ?_; with_reducible assumption) | (with_reducible refine Only.drewN ?_ _) | (with_reducible refine Only.drew ?_) | (with_reducible refine Only.alloc ?_ _) | (with_reducible refine Only.setCell ?_ ?_ _) | (with_reducible refine Only.then0 ?_ (by with_reducible assumption)) | (with_reducible refine Only.thenN ?_ (by with_reducible assumption) ?_) | (with_reducible refine Only.trans ?_ (by with_reducible assumption)) | (refine .inl ?_; first | rfl | (simp; done) | (simp [Ar.blk]; done)) | (refine .inr ?_; first | omega | (simp; done) | (simp; omega) | exact Only.size (by with_reducible assumption) | (refine Nat.le_trans (Only.size (by with_reducible assumption)) ?_; simp; done)))) id).cell; have HV7 := Lib.hid hv7; clear hv7))
          all_goals (
            go_wp2_with fail
            go_returns
            exact HP.out _ (by have := HO3.out; repeat' (first | (with_reducible exact Only.refl _ _) | (with_reducible assumption) | (refine Only.of_none ?_; with_reducible assumption) | (with_reducible refine Only.drewN ?_ _) | (with_reducible refine Only.drew ?_) | (with_reducible refine Only.alloc ?_ _) | (with_reducible refine Only.setCell ?_ ?_ _) | (with_reducible refine Only.then0 ?_ (by with_reducible assumption)) | (with_reducible refine Only.thenN ?_ (by with_reducible assumption) ?_) | (with_reducible refine Only.trans ?_ (by with_reducible assumption)) | (refine .inl ?_; first | rfl | (simp; done) | (simp [Ar.blk]; done)) | (refine .inr ?_; first | omega | (simp; done) | (simp; omega) | exact Only.size (by with_reducible assumption) | (refine Nat.le_trans (Only.size (by with_reducible assumption)) ?_; simp; done)))) _ (ownsRow_base HV7.out HO3.out.size))
      · refine Calls.mono ?_ (stay hi h0)
        have t1 : (E != 0) = true := by simpa using h0
        obtain ⟨oi, oc, os, op, oq⟩ := o
        unfold ordV at HM ⊢
        simp only at HM HG HF hside ⊢
        have h5 := Five.new w (.int .i64 oi) (.int .i64 oc) (.int .u8 os) (.int .i64 op) (.int .i64 oq) 54
        rw [← hside] at HF
        clear h g hz stay hm hg hi hE h0 hside hq
        go_enter Try.func83, Try.ntmps83
        go_wp2_with fail
        refine (HM.out _).mono ?_
        rintro e w1 ⟨rfl, o1⟩
        have h5 := h5.only o1 id; have y0 := h5.c0.cell; have y1 := h5.c1.cell; have y2 := h5.c2.cell; have y3 := h5.c3.cell; have y4 := h5.c4.cell; have yz := cell_lt y0
        go_wp2_with fail
        refine (HG.out _ (by repeat' (first | (with_reducible exact Only.refl _ _) | (with_reducible assumption) | (refine Only.of_none ?_; with_reducible assumption) | (with_reducible refine Only.drewN ?_ _) | (with_reducible refine Only.drew ?_) | (with_reducible refine Only.alloc ?_ _) | (with_reducible refine Only.setCell ?_ ?_ _) | (with_reducible refine Only.then0 ?_ (by with_reducible assumption)) | (with_reducible refine Only.thenN ?_ (by with_reducible assumption) ?_) | (with_reducible refine Only.trans ?_ (by with_reducible assumption)) | (refine .inl ?_; first | rfl | (simp; done) | (simp [Ar.blk]; done)) | (refine .inr ?_; first | omega | (simp; done) | (simp; omega) | exact Only.size (by with_reducible assumption) | (refine Nat.le_trans (Only.size (by with_reducible assumption)) ?_; simp; done))))).mono ?_
        rintro e w2 ⟨rfl, o2⟩
        have h5 := h5.only o2 id; have y0 := h5.c0.cell; have y1 := h5.c1.cell; have y2 := h5.c2.cell; have y3 := h5.c3.cell; have y4 := h5.c4.cell; have yz := cell_lt y0
        go_wp2_with fail
        refine (HF.out _ (by repeat' (first | (with_reducible exact Only.refl _ _) | (with_reducible assumption) | (refine Only.of_none ?_; with_reducible assumption) | (with_reducible refine Only.drewN ?_ _) | (with_reducible refine Only.drew ?_) | (with_reducible refine Only.alloc ?_ _) | (with_reducible refine Only.setCell ?_ ?_ _) | (with_reducible refine Only.then0 ?_ (by with_reducible assumption)) | (with_reducible refine Only.thenN ?_ (by with_reducible assumption) ?_) | (with_reducible refine Only.trans ?_ (by with_reducible assumption)) | (refine .inl ?_; first | rfl | (simp; done) | (simp [Ar.blk]; done)) | (refine .inr ?_; first | omega | (simp; done) | (simp; omega) | exact Only.size (by with_reducible assumption) | (refine Nat.le_trans (Only.size (by with_reducible assumption)) ?_; simp; done))))).mono ?_
        rintro e w3 ⟨rfl, o3⟩
        clear h5
        go_wp2_with fail
        go_returns
        exact ⟨rfl, by repeat' (first | (with_reducible exact Only.refl _ _) | (with_reducible assumption) | (refine Only.of_none ?_; with_reducible assumption) | (with_reducible refine Only.drewN ?_ _) | (with_reducible refine Only.drew ?_) | (with_reducible refine Only.alloc ?_ _) | (with_reducible refine Only.setCell ?_ ?_ _) | (with_reducible refine Only.then0 ?_ (by with_reducible assumption)) | (with_reducible refine Only.thenN ?_ (by with_reducible assumption) ?_) | (with_reducible refine Only.trans ?_ (by with_reducible assumption)) | (refine .inl ?_; first | rfl | (simp; done) | (simp [Ar.blk]; done)) | (refine .inr ?_; first | omega | (simp; done) | (simp; omega) | exact Only.size (by with_reducible assumption) | (refine Nat.le_trans (Only.size (by with_reducible assumption)) ?_; simp; done)))⟩
end
end Go.Proofs.Ytilngakgofjmpaa
