/- The book: Insert where it lays an order down. Conditions: a book as its New lays it. -/
import Derived.Test.YtkglplngnjgnhaaBk3
namespace Go.Proofs.Ytkglplngnjgnhaa
set_option linter.unusedVariables false
set_option linter.unusedSimpArgs false
open Go.RowKit
open Od (OrdR Lay FreeN Blk4)

theorem wf_small {x : Int} (h0 : 0 ≤ x) (h1 : x ≤ 1000000) : Wf x := wf_of (by omega) (by omega)
/-- What Find tells. -/
def FindPost (p : Int) (L : List (Int × Nat)) (w : World) (e : Ending) (w' : World) : Prop := ∃ x : Int, e = .returned (.int .i64 x) ∧ Only (fun _ => False) w w' ∧ ((∃ r : Nat, x = r ∧ (p, r) ∈ L) ∨ (x = -1 ∧ has p L = false))
theorem s_find_any {w : World} {b gu most : Nat} {sg : Int} {hv : Value} {L : List (Int × Nat)} (h : SideAt w b gu most sg hv L) (p : Int) : Calls Try.prog 16 #[.pointer (some ⟨b, 0, none⟩), .int .i64 p] w (FindPost p L w) := by
  cases hp : has p L with
  | true =>
    obtain ⟨⟨p', r⟩, hx, e⟩ := has_iff.1 hp
    simp only at e
    subst e
    exact (Go.Proofs.Ytkglplngnjgnhaa.s_find h p' r hx).mono fun e w' ⟨he, ho⟩ => ⟨_, he, ho, .inl ⟨r, rfl, hx⟩⟩
  | false => exact (Go.Proofs.Ytkglplngnjgnhaa.s_find_no h p hp).mono fun e w' ⟨he, ho⟩ => ⟨_, he, ho, .inr ⟨rfl, hp⟩⟩

/-- Ahead of the arena's call: the price has a row. -/
structure InsMid (w wc : World) (bq gq most : Nat) (sg : Int) (hq : Value) (Lq : List (Int × Nat)) (p : Int) (v0 v1 v2 v3 v4 : Value) (g1 fs r : Nat) (hv' : Value) (L' : List (Int × Nat)) : Prop where
  only : Only (SdB bq gq hq) w wc
  sd : SideAt wc bq gq most sg hv' L'
  loc : hv'.ownBlock = hq.ownBlock ∨ ∃ g, hv'.ownBlock = some g ∧ w.heap.size ≤ g
  box : Five wc w.heap.size v0 v1 v2 v3 v4
  hb : wc.cell? ⟨g1, 1, none⟩ = some (.int .i64 (fs : Nat))
  lt : r < most
  alt : (L' = Lq ∧ (p, r) ∈ Lq) ∨ (L' = put sg p r Lq ∧ has p Lq = false ∧ r ∉ Lq.map Prod.snd)

section
variable {w : World} {b : Nat} {bs gu : Bool → Nat} {hv : Bool → Value} {ba gl gr gf bm most room : Nat} {L : Bool → List (Int × Nat)} {R : Nat → List Nat} {V : Nat → OrdR} {F : Int → Option Int} {l : Bool → List OrdR}

/-- An order lies down: the relation behind it. -/
theorem BookM.ins_rep (h : BookM w b bs gu hv ba gl gr gf bm most room L R V F l) {q : Bool} {o : OrdR} {r n : Nat} {L' : List (Int × Nat)} (hr : r < most) (alt : (L' = L q ∧ (o.p, r) ∈ L q) ∨ (L' = put (sgn q) o.p r (L q) ∧ has o.p (L q) = false ∧ r ∉ (L q).map Prod.snd))
    (hs : o.s = sdN q) (hnm : ∀ k, n ∉ nums (fst most k) (L k) R) (ok : Okd o) (hf : F o.i = none) (hlen : (l false).length + (l true).length < room) :
    BkRep most room (setS L q L') (Od.upd R (fst most q + r) (R (fst most q + r) ++ [n])) (Od.upd V n o) (fput F o.i n) (setS l q (insL (sgn q) o (l q))) := by
  have sd := h.sd q
  rcases alt with ⟨rfl, hx⟩ | ⟨rfl, hp, hrn⟩
  · obtain ⟨a1, a2, a3⟩ := (h.rep.half q).push sd.srt sd.nd hx hs (hnm q)
    refine h.rep.insert a1 (by rw [a2, ← h.rep.e q]) a3 (h.rep.lt q) (fun k hk t ht => Od.upd_other (fst_ne hk ht hr)) ?_ hnm ok hf hlen
    rw [Od.upd_other (by have := fst_le most q; omega)]; exact h.rep.h3
  · obtain ⟨a1, a2, a3⟩ := (h.rep.half q).pushNew sd.srt (h.rep.lt q) hp sd.hsg hr hrn hs (hnm q)
    refine h.rep.insert a1 (by rw [a2, ← h.rep.e q]) a3 (fun x hx => ?_) (fun k hk t ht => Od.upd_other (fst_ne hk ht hr)) ?_ hnm ok hf hlen
    · rcases put_mem.1 hx with rfl | hx
      · exact hr
      · exact h.rep.lt q x hx
    · rw [Od.upd_other (by have := fst_le most q; omega)]; exact h.rep.h3
theorem ins_len {l : Bool → List OrdR} (q : Bool) (sg : Int) (o : OrdR) : (setS l q (insL sg o (l q)) false).length + (setS l q (insL sg o (l q)) true).length = (l false).length + (l true).length + 1 := by
  have h1 := (insL_perm sg o (l q)).length_eq
  rw [List.length_cons] at h1
  cases q
  · rw [setS_same, setS_other (by decide)]; omega
  · rw [setS_same, setS_other (by decide)]; omega

set_option maxRecDepth 100000 in
set_option maxHeartbeats 4000000 in
theorem k_ins (h : BookM w b bs gu hv ba gl gr gf bm most room L R V F l) (o : OrdR) (q : Bool) (hs : o.s = sdN q) (hm : mayB o = true) (hw : Wf o.i) (hf : F o.i = none) (hE : fitsE most room l q o.p = 0) (n : Nat)
    (hn : FreeN (2 * most + 1) room R n) (hmin : ∀ m, FreeN (2 * most + 1) room R m → n ≤ m) (hnm : ∀ k, n ∉ nums (fst most k) (L k) R) (hlen : (l false).length + (l true).length < room) (ok : Okd o) :
    Calls Try.prog 24 #[.pointer (some ⟨b, 0, none⟩), ordV o] w (BkPost w b (BkT b bs gu hv ba gl gr gf bm) most room (setS l q (insL (sgn q) o (l q))) (.int .i64 0)) := by
  obtain ⟨h1, h2, h3, h4, h5⟩ := mayB_parts hm
  have HFULL : has o.p (L q) = false → (L q).length < most := fun hp => by
    have hle := (h.sd q).len
    have e1 : ¬ o.p ∈ pricesL (l q) := by
      rw [h.prices q]; exact fun hm => by rw [has_prices.2 hm] at hp; cases hp
    have e2 : (pricesL (l q)).length = (L q).length := by rw [h.prices q, List.length_map]
    have hop : 1 ≤ o.p ∧ o.p ≤ 1000000000 := by unfold inB at h4; simpa using h4
    unfold fitsE at hE
    rw [if_neg (not_not_intro hop), if_neg (by omega), if_neg e1] at hE
    split at hE
    · cases hE
    · omega
  have HFULL := Lib.hid HFULL
  have HREP := Lib.hid fun (r : Nat) (L' : List (Int × Nat)) (hr : r < most) alt => h.ins_rep (q := q) (o := o) (n := n) (L' := L') hr alt hs hnm ok hf hlen
  have HFT := Lib.hid fun W (o1 : Only (fun _ => False) w W) => k_fits (h.only o1 (fun _ _ => id)) q o.p
  rw [hE, ← hs] at HFT
  have HH := Lib.hid fun W (o1 : Only (fun _ => False) w W) => k_half (h.only o1 (fun _ _ => id)) q
  rw [← hs] at HH
  have HFD := Lib.hid fun W (o1 : Only (fun _ => False) w W) => s_find_any (SideU.only (h.sd q) o1 (fun _ _ => id)) o.p
  have HSD := Lib.hid fun W (o1 : Only (fun _ => False) w W) => SideU.only (h.sd q) o1 (fun _ _ => id)
  have HM := Lib.hid h
  have hn1 := hn.1
  have hk0 := h.numLe
  have hsm := h.small
  have hmo := h.mostLe
  have hfl := fst_le most q
  have o0 := (Only.refl (fun _ => False) w).alloc (.cells #[.int .i64 o.i, .int .i64 o.c, .int .u8 o.s, .int .i64 o.p, .int .i64 o.q] 54)
  have HFV := Lib.hid (Five.new w (.int .i64 o.i) (.int .i64 o.c) (.int .u8 o.s) (.int .i64 o.p) (.int .i64 o.q) 54)
  have c5 := (h.only o0 (fun _ _ => id)).c5.cell
  have hl := fun n => (h.only (o0.drewN n) (fun _ _ => id)).im.look hw
  rw [hf] at hl
  simp only [Option.getD_none, Option.isSome_none] at hl
  have z0 := h.c5.lt
  obtain ⟨fs, hfs⟩ : ∃ fs, fs = fst most q := ⟨_, rfl⟩
  have HFS := Lib.hid hfs
  rw [← hfs] at HH hfl
  have HW := Lib.hid hw
  have HF0 := Lib.hid hf
  have HN := Lib.hid hn
  have HMIN := Lib.hid hmin
  have HOP : 1 ≤ o.p ∧ o.p ≤ 1000000000 := by unfold inB at h4; simpa using h4
  obtain ⟨b1, hb1⟩ : ∃ b1, b1 = bs q := ⟨_, rfl⟩
  rw [← hb1] at HH HFD HSD
  have HB1 := Lib.hid hb1
  obtain ⟨oi, oc, os, op, oq⟩ := o
  unfold ordV
  simp only at *
  clear h hm hw hf hE hs hn hmin hnm ok hfs hb1 hlen
  go_enter Try.func24, Try.ntmps24
  go_wp2_with (first | (go_at_call 55; refine (k_within _ _ _).mono ?_; rintro e w1 ⟨rfl, rfl⟩) | (go_at_call 56; refine (k_sided _ _).mono ?_; rintro e w1 ⟨rfl, rfl⟩))
  go_quiet (fail)
  go_wp2_with fail
  refine (HFT.out _ (by repeat' (first | (with_reducible exact Only.refl _ _) | (with_reducible assumption) | (refine Only.of_none ?_; with_reducible assumption) | (with_reducible refine Only.drewN ?_ _) | (with_reducible refine Only.drew ?_) | (with_reducible refine Only.alloc ?_ _) | (with_reducible refine Only.setCell ?_ ?_ _) | (with_reducible refine Only.then0 ?_ (by with_reducible assumption)) | (with_reducible refine Only.thenN ?_ (by with_reducible assumption) ?_) | (with_reducible refine Only.trans ?_ (by with_reducible assumption)) | (refine .inl ?_; first | rfl | (simp; done) | (simp [Ar.blk]; done)) | (refine .inr ?_; first | omega | (simp; done) | (simp; omega) | exact Only.size (by with_reducible assumption) | (refine Nat.le_trans (Only.size (by with_reducible assumption)) ?_; simp; done))))).mono ?_
  rintro e w1 ⟨rfl, o1⟩
  clear HFT hl c5
  have O1 : Only (fun _ => False) w w1 := by repeat' (first | (with_reducible exact Only.refl _ _) | (with_reducible assumption) | (refine Only.of_none ?_; with_reducible assumption) | (with_reducible refine Only.drewN ?_ _) | (with_reducible refine Only.drew ?_) | (with_reducible refine Only.alloc ?_ _) | (with_reducible refine Only.setCell ?_ ?_ _) | (with_reducible refine Only.then0 ?_ (by with_reducible assumption)) | (with_reducible refine Only.thenN ?_ (by with_reducible assumption) ?_) | (with_reducible refine Only.trans ?_ (by with_reducible assumption)) | (refine .inl ?_; first | rfl | (simp; done) | (simp [Ar.blk]; done)) | (refine .inr ?_; first | omega | (simp; done) | (simp; omega) | exact Only.size (by with_reducible assumption) | (refine Nat.le_trans (Only.size (by with_reducible assumption)) ?_; simp; done)))
  have F1 := HFV.out.only (((Only.refl (fun _ => False) _).drewN nq).trans o1) id
  have bx2 := F1.c2.cell
  have zx := cell_lt bx2
  have HF1 := Lib.hid F1
  have HO1 := Lib.hid O1
  clear F1 o1 o0 O1 HFV
  go_wp2_with fail
  refine (HH.out _ HO1.out).mono ?_
  rintro e w2 ⟨rfl, o2⟩
  have F2 := HF1.out.only (o2.alloc (.cells #[.pointer (some ⟨b1, 0, none⟩), .int .i64 (fs : Nat)] 123)) id
  have by3 := F2.c3.cell
  have zy := cell_lt by3
  have B2 : (w2.alloc (.cells #[.pointer (some ⟨b1, 0, none⟩), .int .i64 (fs : Nat)] 123)).cell? ⟨w2.heap.size, 1, none⟩ = some (.int .i64 (fs : Nat)) := (Cell.new rfl).cell
  have O2 : Only (fun _ => False) w (w2.alloc (.cells #[.pointer (some ⟨b1, 0, none⟩), .int .i64 (fs : Nat)] 123)) := (HO1.out.trans o2).alloc _
  have HF2 := Lib.hid F2
  have HB2 := Lib.hid B2
  have HO2 := Lib.hid O2
  have zz := o2.size
  clear F2 B2 o2 O2
  go_wp2_with fail
  refine (HFD.out _ HO2.out).mono ?_
  intro e w3 hpost
  obtain ⟨x, rfl, o3, hx⟩ := hpost
  have F3 := HF2.out.only o3 id
  have B3 : w3.cell? ⟨w2.heap.size, 1, none⟩ = some (.int .i64 (fs : Nat)) := o3.cell HB2.out id
  have B30 : w3.cell? ⟨w2.heap.size, 0, none⟩ = some (.pointer (some ⟨b1, 0, none⟩)) := o3.cell (Cell.new rfl).cell id
  have O3 := HO2.out.trans o3
  have bz3 := F3.c3.cell
  have zw := cell_lt B3
  have HF3 := Lib.hid F3
  have HB3 := Lib.hid B3
  have HO3 := Lib.hid O3
  have HX := Lib.hid hx
  have zg : w.heap.size < w2.heap.size := by omega
  obtain ⟨g1, hg1⟩ : ∃ g1, w2.heap.size = g1 := ⟨_, rfl⟩
  rw [hg1] at B30 HB3 zw zg ⊢
  clear F3 B3 o3 O3 HFD HF1 HO1 HF2 HB2 HO2 zz hx HH by3 zy bx2 zx hg1
  go_upto_if 66 with fail
  go_cut [10] (fun s10 wc => ∃ (r : Nat) (hv' : Value) (L' : List (Int × Nat)), s10 = .int .i64 (r : Nat) ∧ InsMid w wc b1 (gu q) most (sgn q) (hv q) (L q) op (.int .i64 oi) (.int .i64 oc) (.int .u8 os) (.int .i64 op) (.int .i64 oq) g1 fs r hv' L')
  case first =>
    rcases HX.out with ⟨r, rfl, hx⟩ | ⟨rfl, hp⟩
    · have t1 : decide ((r : Int) < 0) = false := by simp
      have hr := (HSD.out _ HO3.out).lt _ hx
      clear HX
      have HHX := Lib.hid hx
      clear hx
      go_wp2_with fail
      go_meet
      exact ⟨r, _, _, rfl, ⟨Only.of_none HO3.out, HSD.out _ HO3.out, .inl rfl, HF3.out, HB3.out, hr, .inl ⟨rfl, HHX.out⟩⟩⟩
    · obtain ⟨r, r1, r2, r3⟩ := free_row (HFULL.out hp)
      have HA := Lib.hid (Go.Proofs.Ytkglplngnjgnhaa.s_add (HSD.out _ HO3.out) op HOP.1 HOP.2 hp r r1 r2 r3 (HFULL.out hp))
      have HP := Lib.hid hp
      have HR2 := Lib.hid r2
      clear HX hp r2 r3
      go_wp2_with fail
      refine HA.out.mono ?_
      intro e w4 hpost
      obtain ⟨hv', rfl, sd4, o4, loc4⟩ := hpost
      have HMID : InsMid w w4 b1 (gu q) most (sgn q) (hv q) (L q) op (.int .i64 oi) (.int .i64 oc) (.int .u8 os) (.int .i64 op) (.int .i64 oq) g1 fs r hv' (put (sgn q) op r (L q)) := by
        have hlt : ∀ i, SdB b1 (gu q) (hv q) i → i < w.heap.size := fun i hi => HM.out.lt i (.inr (.inl ⟨q, by rw [← HB1.out]; exact hi⟩))
        refine ⟨(Only.of_none HO3.out).trans o4, sd4, ?_, HF3.out.only o4 fun hi => by have := hlt _ hi; omega, o4.cell HB3.out fun hi => by have := hlt _ hi; omega, r1, .inr ⟨rfl, HP.out, HR2.out⟩⟩
        rcases loc4 with e | ⟨g, e, hg⟩
        · exact .inl e
        · exact .inr ⟨g, e, Nat.le_trans HO3.out.size hg⟩
      have HMID := Lib.hid HMID
      clear sd4 o4 loc4 HA
      go_wp2_with fail
      go_meet
      exact ⟨r, _, _, rfl, HMID.out⟩
  case rest =>
    obtain ⟨r, hv', L', rfl, hmid⟩ := hcut
    have M := HM.out
    have hbS : ¬ SdB b1 (gu q) (hv q) b := by rw [HB1.out]; exact M.db.1 q
    have c4 := (M.c4.only hmid.only hbS).cell
    have c5 := (M.c5.only hmid.only hbS).cell
    have hbm : ¬ SdB b1 (gu q) (hv q) bm := by rw [HB1.out]; exact fun hi => (M.dq q bm hi).2 rfl
    have HLAY := M.lay.keep hmid.only (fun i hi hj => by rw [HB1.out] at hj; exact (M.dq q i hj).1 hi)
    have HIMc := M.im.only hmid.only hbm
    have b4 : ∀ i, Blk4 ba gl gr gf i → i < w.heap.size := fun i hi => M.lay.blk i hi
    have d1 := hmid.box.c0.cell; have d2 := hmid.box.c1.cell; have d3 := hmid.box.c2.cell; have d4 := hmid.box.c3.cell; have d5 := hmid.box.c4.cell
    have d6 := hmid.hb
    have hS4 : ∀ i, (Blk4 ba gl gr gf i ∨ i = bm) → i < w.heap.size := fun i hi => hi.elim (b4 i) (fun e => e ▸ M.im.lt)
    have KEEP := fun W (o : Only (fun i => Blk4 ba gl gr gf i ∨ i = bm) wc W) => Lib.hid (show W.cell? ⟨b, 5, none⟩ = some (.map (some bm)) ∧ W.cell? ⟨b, 4, none⟩ = some (.pointer (some ⟨ba, 0, none⟩)) ∧ W.cell? ⟨g1, 1, none⟩ = some (.int .i64 (fs : Nat)) ∧ W.cell? ⟨w.heap.size, 0, none⟩ = some (.int .i64 oi) ∧ W.cell? ⟨w.heap.size, 1, none⟩ = some (.int .i64 oc) ∧ W.cell? ⟨w.heap.size, 2, none⟩ = some (.int .u8 os) ∧ W.cell? ⟨w.heap.size, 3, none⟩ = some (.int .i64 op) ∧ W.cell? ⟨w.heap.size, 4, none⟩ = some (.int .i64 oq) from ⟨o.cell c5 (fun hi => hi.elim M.db.2.1 M.db.2.2), o.cell c4 (fun hi => hi.elim M.db.2.1 M.db.2.2), o.cell d6 (fun hi => by have := hS4 _ hi; omega), o.cell d1 (fun hi => by have := hS4 _ hi; omega), o.cell d2 (fun hi => by have := hS4 _ hi; omega), o.cell d3 (fun hi => by have := hS4 _ hi; omega), o.cell d4 (fun hi => by have := hS4 _ hi; omega), o.cell d5 (fun hi => by have := hS4 _ hi; omega)⟩)
    have HP := Lib.hid fun W (o1 : Only (fun _ => False) wc W) => Od.h_push W ba gl gr gf (2 * most + 1) room R V (HLAY.keep o1 (fun _ _ => id)) (fs + r) n ⟨oi, oc, os, op, oq⟩ (by have := hmid.lt; omega) HN.out HMIN.out
    simp only [Int.natCast_add] at HP
    have HIM := Lib.hid fun W (o1 : Only (Blk4 ba gl gr gf) wc W) => HIMc.only o1 (fun hi => M.da bm hi rfl)
    have hrl := hmid.lt
    have ww : IntKind.i64.wrap ((fs : Int) + (r : Int)) = (fs : Int) + (r : Int) := by rw [IntKind.wrap_i64]; omega
    have HMID := Lib.hid hmid
    have HDA := Lib.hid M.da
    have HK := Lib.hid (show (l false).length + (l true).length ≤ 65536 by omega)
    have z1 := cell_lt c5
    have z2 := cell_lt d1
    have z3 := cell_lt d6
    have HNW := Lib.hid (show Wf (n : Int) from wf_small (by omega) (by omega))
    clear M hbS HLAY HIMc b4 hS4 hmid hbm HFULL HSD HF3 HB3 HO3 HX bz3 zw B30 hk0 hsm hmo hfl hrl hn1
    go_wp2_with fail
    go_region_held3 (fun W => W.cell? ⟨b, 5, none⟩ = some (.map (some bm)) ∧ W.cell? ⟨b, 4, none⟩ = some (.pointer (some ⟨ba, 0, none⟩)) ∧ W.cell? ⟨g1, 1, none⟩ = some (.int .i64 (fs : Nat)) ∧ W.cell? ⟨w.heap.size, 0, none⟩ = some (.int .i64 oi) ∧ W.cell? ⟨w.heap.size, 1, none⟩ = some (.int .i64 oc) ∧ W.cell? ⟨w.heap.size, 2, none⟩ = some (.int .u8 os) ∧ W.cell? ⟨w.heap.size, 3, none⟩ = some (.int .i64 op) ∧ W.cell? ⟨w.heap.size, 4, none⟩ = some (.int .i64 oq))
      (first | (refine (KEEP _ ?_).out; (repeat' (first | (with_reducible exact Only.refl _ _) | (with_reducible assumption) | (refine Only.of_none ?_; with_reducible assumption) | (with_reducible refine Only.drewN ?_ _) | (with_reducible refine Only.drew ?_) | (with_reducible refine Only.alloc ?_ _) | (with_reducible refine Only.setCell ?_ ?_ _) | (with_reducible refine Only.then0 ?_ (by with_reducible assumption)) | (with_reducible refine Only.thenN ?_ (by with_reducible assumption) ?_) | (with_reducible refine Only.trans ?_ (by with_reducible assumption)) | (refine .inl ?_; first | rfl | (simp; done) | (simp [Ar.blk]; done)) | (refine .inr ?_; first | omega | (simp; done) | (simp; omega) | exact Only.size (by with_reducible assumption) | (refine Nat.le_trans (Only.size (by with_reducible assumption)) ?_; simp; done)))); done))
      (first | (go_at_call 58; refine (HP.out _ (by repeat' (first | (with_reducible exact Only.refl _ _) | (with_reducible assumption) | (refine Only.of_none ?_; with_reducible assumption) | (with_reducible refine Only.drewN ?_ _) | (with_reducible refine Only.drew ?_) | (with_reducible refine Only.alloc ?_ _) | (with_reducible refine Only.setCell ?_ ?_ _) | (with_reducible refine Only.then0 ?_ (by with_reducible assumption)) | (with_reducible refine Only.thenN ?_ (by with_reducible assumption) ?_) | (with_reducible refine Only.trans ?_ (by with_reducible assumption)) | (refine .inl ?_; first | rfl | (simp; done) | (simp [Ar.blk]; done)) | (refine .inr ?_; first | omega | (simp; done) | (simp; omega) | exact Only.size (by with_reducible assumption) | (refine Nat.le_trans (Only.size (by with_reducible assumption)) ?_; simp; done))))).mono ?_; rintro e w7 ⟨rfl, lay7, o7⟩; have OO : Only (Blk4 ba gl gr gf) wc w7 := (by repeat' (first | (with_reducible exact Only.refl _ _) | (with_reducible assumption) | (refine Only.of_none ?_; with_reducible assumption) | (with_reducible refine Only.drewN ?_ _) | (with_reducible refine Only.drew ?_) | (with_reducible refine Only.alloc ?_ _) | (with_reducible refine Only.setCell ?_ ?_ _) | (with_reducible refine Only.then0 ?_ (by with_reducible assumption)) | (with_reducible refine Only.thenN ?_ (by with_reducible assumption) ?_) | (with_reducible refine Only.trans ?_ (by with_reducible assumption)) | (refine .inl ?_; first | rfl | (simp; done) | (simp [Ar.blk]; done)) | (refine .inr ?_; first | omega | (simp; done) | (simp; omega) | exact Only.size (by with_reducible assumption) | (refine Nat.le_trans (Only.size (by with_reducible assumption)) ?_; simp; done)))); obtain ⟨w8, hr8, im8, o8⟩ := (HIM.out w7 OO).store HK.out HW.out HNW.out; rw [HF0.out] at im8; have HL7 := Lib.hid lay7; have HI8 := Lib.hid im8; have HOO := Lib.hid OO; have HO8 := Lib.hid o8; have OO7 : Only (fun i => Blk4 ba gl gr gf i ∨ i = bm) wc w7 := OO.mono (fun i _ hi => .inl hi); have OO8 : Only (fun i => Blk4 ba gl gr gf i ∨ i = bm) wc w8 := OO7.trans (o8.mono (fun i _ hi => .inr hi)); clear lay7 im8 OO o8))
    all_goals
      go_wp2_with fail
      go_returns
      have M := HMID.out
      have o8b : Only (BkS bs gu hv ba gl gr gf bm q) wc w8 := (HOO.out.mono fun i _ hi => .inr (.inl hi)).trans (HO8.out.mono fun i _ hi => .inr (.inr hi))
      have hsd8 := SideU.only (SideU.only M.sd HOO.out (fun i hi hj => by
        rcases hi with h1 | h1 | h1
        · exact (HM.out.dq q i (by rw [← HB1.out]; exact .inl h1)).1 hj
        · exact (HM.out.dq q i (by rw [← HB1.out]; exact .inr (.inl h1))).1 hj
        · rcases M.loc with h2 | ⟨g, h2, h3⟩
          · exact (HM.out.dq q i (.inr (.inr (by rw [← h2]; exact h1)))).1 hj
          · rw [h2] at h1; injection h1 with h1; have := HM.out.lay.blk i hj; omega)) HO8.out (fun i hi hj => by
        rcases hi with h1 | h1 | h1
        · exact (HM.out.dq q i (by rw [← HB1.out]; exact .inl h1)).2 hj
        · exact (HM.out.dq q i (by rw [← HB1.out]; exact .inr (.inl h1))).2 hj
        · rcases M.loc with h2 | ⟨g, h2, h3⟩
          · exact (HM.out.dq q i (.inr (.inr (by rw [← h2]; exact h1)))).2 hj
          · rw [h2] at h1; injection h1 with h1; have := HM.out.im.lt; omega)
      have hlay8 := HL7.out.keep HO8.out (fun i hi hj => HDA.out i hi hj)
      rw [HB1.out] at hsd8
      rw [HFS.out] at hlay8
      refine HM.out.post q (l' := setS l q (insL (sgn q) ⟨oi, oc, os, op, oq⟩ (l q))) rfl ?_ hsd8 M.loc hlay8 ?_ (HREP.out r L' M.lt M.alt)
      · refine Only.trans ?_ o8b
        have := M.only
        rw [HB1.out] at this
        exact this.mono fun i _ hi => .inl hi
      · rw [ins_len]; exact HI8.out
end
end Go.Proofs.Ytkglplngnjgnhaa
