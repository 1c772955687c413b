/- The book: Remove. Conditions: a book as its New lays it. -/
import Derived.Test.YtkglplngnjgnhaaBk4
namespace Go.Proofs.Ytkglplngnjgnhaa
set_option linter.unusedVariables false
set_option linter.unusedSimpArgs false
open Go.RowKit
open Od (OrdR Lay FreeN Blk4)

section
variable {w : World} {b : Nat} {bs gu : Bool → Nat} {hv : Bool → Value} {ba gl gr gf bm most room : Nat} {L : Bool → List (Int × Nat)} {R : Nat → List Nat} {V : Nat → OrdR} {F : Int → Option Int} {l : Bool → List OrdR}

set_option maxRecDepth 100000 in
set_option maxHeartbeats 1000000 in
theorem k_rem_no (h : BookM w b bs gu hv ba gl gr gf bm most room L R V F l) (k : Int) (hw : Wf k) (hf : F k = none) :
    Calls Try.prog 28 #[.pointer (some ⟨b, 0, none⟩), .int .i64 k] w fun e w' => e = .returned (.tuple #[ordV zOrd, .int .i64 63]) ∧ Only (fun _ => False) w w' := by
  have o0 := (Only.refl (fun _ => False) w).alloc (.cells #[.int .i64 0, .int .i64 0, .int .u8 0, .int .i64 0, .int .i64 0] 54)
  have h0 := h.only o0 (fun _ _ => id)
  have c5 := h0.c5.cell
  have hl := h0.im.look hw
  rw [hf] at hl
  simp only [Option.getD_none, Option.isSome_none] at hl
  have h5 := Five.new w (.int .i64 0) (.int .i64 0) (.int .u8 0) (.int .i64 0) (.int .i64 0) 54
  have f0 := h5.c0.free; have f1 := h5.c1.free; have f2 := h5.c2.free; have f3 := h5.c3.free; have f4 := h5.c4.free
  have g0 := h5.c0.cell; have g1 := h5.c1.cell; have g2 := h5.c2.cell; have g3 := h5.c3.cell; have g4 := h5.c4.cell
  have P := h5.put (.int .i64 0) (.int .i64 0) (.int .u8 0) (.int .i64 0) (.int .i64 0)
  have p0 := P.c0.cell; have p1 := P.c1.cell; have p2 := P.c2.cell; have p3 := P.c3.cell; have p4 := P.c4.cell
  unfold ordV zOrd
  clear h h0 hf h5 P o0
  go_enter Try.func28, Try.ntmps28
  go_wp2_with fail
  refine bodyPost_ret (by simp [results, Try.results28, go_sem, p0, p1, p2, p3, p4]; try rfl) rfl ?_
  exact ⟨rfl, by repeat' (first | (with_reducible exact Only.refl _ _) | (with_reducible assumption) | (refine Only.of_none ?_; with_reducible assumption) | (with_reducible refine Only.drewN ?_ _) | (with_reducible refine Only.drew ?_) | (with_reducible refine Only.alloc ?_ _) | (with_reducible refine Only.setCell ?_ ?_ _) | (with_reducible refine Only.then0 ?_ (by with_reducible assumption)) | (with_reducible refine Only.thenN ?_ (by with_reducible assumption) ?_) | (with_reducible refine Only.trans ?_ (by with_reducible assumption)) | (refine .inl ?_; first | rfl | (simp; done) | (simp [Ar.blk]; done)) | (refine .inr ?_; first | omega | (simp; done) | (simp; omega) | exact Only.size (by with_reducible assumption) | (refine Nat.le_trans (Only.size (by with_reducible assumption)) ?_; simp; done)))⟩

set_option maxHeartbeats 1000000 in
theorem k_half_at {w : World} {b b1 b2 most : Nat} (c0 : Cell w b 0 (.pointer (some ⟨b1, 0, none⟩))) (c1 : Cell w b 1 (.int .i64 0)) (c2 : Cell w b 2 (.pointer (some ⟨b2, 0, none⟩))) (c3 : Cell w b 3 (.int .i64 (most : Int))) (q : Bool) :
    Calls Try.prog 57 #[.pointer (some ⟨b, 0, none⟩), .int .u8 (sdN q)] w fun e w' => e = .returned (.agg #[.pointer (some ⟨if q then b2 else b1, 0, none⟩), .int .i64 (fst most q : Nat)]) ∧ Only (fun _ => False) w w' := by
  have c0 := c0.cell
  have c1 := c1.cell
  have c2 := c2.cell
  have c3 := c3.cell
  have z0 := cell_lt c0
  cases q
  · show Calls Try.prog 57 #[.pointer (some ⟨b, 0, none⟩), .int .u8 1] w fun e w' => e = .returned (.agg #[.pointer (some ⟨b1, 0, none⟩), .int .i64 0]) ∧ Only (fun _ => False) w w'
    go_enter Try.func57, Try.ntmps57
    go_wp2_with fail
    refine bodyPost_ret (by simp [results, Try.results57, go_sem]; try rfl) rfl ?_
    exact ⟨rfl, by repeat' (first | (with_reducible exact Only.refl _ _) | (with_reducible assumption) | (refine Only.of_none ?_; with_reducible assumption) | (with_reducible refine Only.drewN ?_ _) | (with_reducible refine Only.drew ?_) | (with_reducible refine Only.alloc ?_ _) | (with_reducible refine Only.setCell ?_ ?_ _) | (with_reducible refine Only.then0 ?_ (by with_reducible assumption)) | (with_reducible refine Only.thenN ?_ (by with_reducible assumption) ?_) | (with_reducible refine Only.trans ?_ (by with_reducible assumption)) | (refine .inl ?_; first | rfl | (simp; done) | (simp [Ar.blk]; done)) | (refine .inr ?_; first | omega | (simp; done) | (simp; omega) | exact Only.size (by with_reducible assumption) | (refine Nat.le_trans (Only.size (by with_reducible assumption)) ?_; simp; done)))⟩
  · show Calls Try.prog 57 #[.pointer (some ⟨b, 0, none⟩), .int .u8 2] w fun e w' => e = .returned (.agg #[.pointer (some ⟨b2, 0, none⟩), .int .i64 (most : Int)]) ∧ Only (fun _ => False) w w'
    go_enter Try.func57, Try.ntmps57
    go_wp2_with fail
    refine bodyPost_ret (by simp [results, Try.results57, go_sem]; try rfl) rfl ?_
    exact ⟨rfl, by repeat' (first | (with_reducible exact Only.refl _ _) | (with_reducible assumption) | (refine Only.of_none ?_; with_reducible assumption) | (with_reducible refine Only.drewN ?_ _) | (with_reducible refine Only.drew ?_) | (with_reducible refine Only.alloc ?_ _) | (with_reducible refine Only.setCell ?_ ?_ _) | (with_reducible refine Only.then0 ?_ (by with_reducible assumption)) | (with_reducible refine Only.thenN ?_ (by with_reducible assumption) ?_) | (with_reducible refine Only.trans ?_ (by with_reducible assumption)) | (refine .inl ?_; first | rfl | (simp; done) | (simp [Ar.blk]; done)) | (refine .inr ?_; first | omega | (simp; done) | (simp; omega) | exact Only.size (by with_reducible assumption) | (refine Nat.le_trans (Only.size (by with_reducible assumption)) ?_; simp; done)))⟩
/-- An order is taken out: the relation behind it. -/
theorem BookM.rem_rep (h : BookM w b bs gu hv ba gl gr gf bm most room L R V F l) {q : Bool} {r n : Nat} {p : Int} {z : OrdR} {l1 l2 : List Nat} {L' : List (Int × Nat)} (hx : (p, r) ∈ L q) (hR : R (fst most q + r) = l1 ++ n :: l2)
    (alt : (l1 ++ l2 ≠ [] ∧ L' = L q) ∨ (l1 ++ l2 = [] ∧ ∃ k, (L q)[k]? = some (p, r) ∧ L' = cutAt k (L q))) :
    BkRep most room (setS L q L') (Od.upd R (fst most q + r) (l1 ++ l2)) (Od.upd V n z) (fdel F (V n).i) (setS l q (delL (V n).i (l q))) := by
  have sd := h.sd q
  have hr := h.rep.lt q _ hx
  have hnd := h.rep.nd q
  have h3 : Od.upd R (fst most q + r) (l1 ++ l2) (2 * most) = [] := by
    rw [Od.upd_other (by have := fst_le most q; simp only at hr; omega)]; exact h.rep.h3
  rcases alt with ⟨hl, rfl⟩ | ⟨hl, k, hk, rfl⟩
  · obtain ⟨a1, A, C, a2, a3⟩ := (h.rep.half q).take (z := z) sd.nd hx hR hl hnd
    exact h.rep.remove a1 a2 a3 (h.rep.lt q) (fun k hk t ht => Od.upd_other (fst_ne hk ht hr)) h3
  · have e1 : l1 = [] := (List.append_eq_nil_iff.1 hl).1
    have e2 : l2 = [] := (List.append_eq_nil_iff.1 hl).2
    subst e1; subst e2
    obtain ⟨a1, A, C, a2, a3⟩ := (h.rep.half q).cut (z := z) sd.nd hk hR hnd
    exact h.rep.remove a1 a2 a3 (fun x hx => h.rep.lt q x ((cut_sub k (L q)).subset hx)) (fun k hk t ht => Od.upd_other (fst_ne hk ht hr)) h3

/-- Behind the arena's call and the map's: the price may be gone. -/
structure RemMid (w w0 wc : World) (bq gq most : Nat) (sg : Int) (hq : Value) (Lq : List (Int × Nat)) (p : Int) (r : Nat) (gone : Bool) (v0 v1 v2 v3 v4 : Value) (g1 g2 : Nat) (hv' : Value) (L' : List (Int × Nat)) : Prop where
  only : Only (SdB bq gq hq) w0 wc
  sd : SideAt wc bq gq most sg hv' L'
  loc : hv'.ownBlock = hq.ownBlock ∨ ∃ g, hv'.ownBlock = some g ∧ g1 < g
  box : Five wc g1 v0 v1 v2 v3 v4
  res : ∃ u0 u1 u2 u3 u4, Five wc g2 u0 u1 u2 u3 u4
  alt : (gone = false ∧ L' = Lq) ∨ (gone = true ∧ ∃ k, Lq[k]? = some (p, r) ∧ L' = cutAt k Lq)

theorem del_len {l : Bool → List OrdR} {q : Bool} {n : Nat} {V : Nat → OrdR} (h : BkRep most room L R V F l) (hn : n ∈ nums (fst most q) (L q) R) : (setS l q (delL (V n).i (l q)) false).length + (setS l q (delL (V n).i (l q)) true).length = (l false).length + (l true).length - 1 := by
  obtain ⟨A, C, e⟩ := List.append_of_mem hn
  have h1 := h.ids1 q
  have h2 := h.e q
  rw [e] at h2
  rw [h2] at h1
  have h3 : (delL (V n).i (l q)).length + 1 = (l q).length := by
    rw [h2, delL_mid h1]
    simp
    omega
  cases q
  · rw [setS_same, setS_other (by decide)]; omega
  · rw [setS_same, setS_other (by decide)]; omega

set_option maxRecDepth 100000 in
set_option maxHeartbeats 4000000 in
theorem k_rem (h : BookM w b bs gu hv ba gl gr gf bm most room L R V F l) (k : Int) (hw : Wf k) (n : Nat) (q : Bool) (hf : F k = some (n : Int)) (hn : n ∈ nums (fst most q) (L q) R) (hi : (V n).i = k) :
    Calls Try.prog 28 #[.pointer (some ⟨b, 0, none⟩), .int .i64 k] w (BkPost w b (BkT b bs gu hv ba gl gr gf bm) most room (setS l q (delL k (l q))) (.tuple #[ordV (V n), .int .i64 0])) := by
  have hside := h.rep.side hn
  obtain ⟨⟨p, r⟩, hx, hnr⟩ := mem_nums.1 hn
  simp only at hnr
  have hprice := ((h.rep.half q).pr _ hx n hnr).1
  simp only at hprice
  have hr := h.rep.lt q _ hx
  simp only at hr
  obtain ⟨l1, l2, hR⟩ := List.append_of_mem hnr
  have hdl := del_len h.rep hn
  have HREP := Lib.hid fun (L' : List (Int × Nat)) alt => h.rem_rep (q := q) (n := n) (z := ⟨0, 0, 0, 0, 0⟩) (L' := L') hx hR alt
  rw [hi] at HREP hdl
  have HDL := Lib.hid hdl
  have o0 := (Only.refl (fun _ => False) w).alloc (.cells #[.int .i64 0, .int .i64 0, .int .u8 0, .int .i64 0, .int .i64 0] 54)
  have h0 := h.only o0 (fun _ _ => id)
  have c5 := h0.c5.cell
  have c4 := h0.c4.cell
  have hl := h0.im.look hw
  rw [hf] at hl
  simp only [Option.getD_some, Option.isSome_some] at hl
  have HROW := Lib.hid (Od.h_row _ ba gl gr gf (2 * most + 1) room R V h0.lay (fst most q + r) n (fst_row hr) hnr)
  have HTAKE := Lib.hid (Od.h_take _ ba gl gr gf (2 * most + 1) room R V h0.lay (fst most q + r) n (fst_row hr) l1 l2 hR)
  have HLEN := Lib.hid fun W Vz (hLay : Lay W ba gl gr gf (2 * most + 1) room (Od.upd R (fst most q + r) (l1 ++ l2)) Vz) => Od.h_len W ba gl gr gf (2 * most + 1) room _ _ hLay (fst most q + r) (fst_row hr)
  rw [show Od.upd R (fst most q + r) (l1 ++ l2) (fst most q + r) = l1 ++ l2 from Od.upd_same _ _ _] at HLEN
  have HRES := Lib.hid (Five.new w (.int .i64 0) (.int .i64 0) (.int .u8 0) (.int .i64 0) (.int .i64 0) 54)
  have HM := Lib.hid h
  have HM0 := Lib.hid h0
  have HX := Lib.hid hx
  have HWW := Lib.hid hw
  have HFF := Lib.hid hf
  obtain ⟨g0, hg0⟩ : ∃ g0, w.heap.size = g0 := ⟨_, rfl⟩
  have HG0 := Lib.hid hg0
  obtain ⟨W0, hW0⟩ : ∃ W0, w.alloc (.cells #[.int .i64 0, .int .i64 0, .int .u8 0, .int .i64 0, .int .i64 0] 54) = W0 := ⟨_, rfl⟩
  have hsz0 : W0.heap.size = g0 + 1 := by rw [← hW0, ← hg0]; simp
  rw [hg0] at HRES
  rw [hW0] at o0 c5 c4 hl HROW HTAKE HRES HM0
  have HO0 := Lib.hid o0
  have z0 := cell_lt c5
  obtain ⟨k0, hk0e⟩ : ∃ k0, k0 = (l1 ++ l2).length := ⟨_, rfl⟩
  rw [← hk0e] at HLEN
  have HK0 := Lib.hid hk0e
  have hk0b : k0 ≤ 65536 := by
    have h5 : k0 + 1 ≤ (nums (fst most q) (L q) R).length := by
      obtain ⟨A, C, hA⟩ := List.append_of_mem hx
      rw [hA, nums_append, nums_cons]
      show k0 + 1 ≤ (nums (fst most q) A R ++ (R (fst most q + r) ++ nums (fst most q) C R)).length
      rw [hR]
      simp only [List.length_append, List.length_cons] at *
      omega
    have h6 := congrArg List.length (h.rep.e q)
    rw [List.length_map] at h6
    have h7 := h.numLe
    have h8 := h.small
    cases q <;> omega
  obtain ⟨fr, hfr⟩ : ∃ fr, fr = fst most q + r := ⟨_, rfl⟩
  rw [← hfr] at HROW HTAKE HLEN HREP
  have HFR := Lib.hid hfr
  obtain ⟨V', hV'⟩ : ∃ V', V' = Od.upd V n ⟨0, 0, 0, 0, 0⟩ := ⟨_, rfl⟩
  rw [← hV'] at HTAKE HREP
  generalize V n = o at *
  obtain ⟨oi, oc, os, op, oq⟩ := o
  unfold ordV
  simp only at *
  obtain ⟨b1, hb1⟩ : ∃ b1, b1 = bs q := ⟨_, rfl⟩
  have HB1 := Lib.hid hb1
  have HSIDE := Lib.hid hside
  have HPRICE := Lib.hid hprice
  clear h h0 hw hf hn hi hside hprice hx hnr hR hdl hg0 hfr hV' hb1 hk0e
  have hk0b := hk0b
  go_enter Try.func28, Try.ntmps28
  go_upto_region 1 with fail
  try rw [HG0.out]
  try rw [hW0]
  clear hW0
  go_wp2_with fail
  refine HROW.out.mono ?_
  rintro e w1 ⟨rfl, rfl⟩
  go_wp2_with fail
  refine HTAKE.out.mono ?_
  rintro e w2 ⟨rfl, lay2, o2⟩
  have hbB : ¬ Blk4 ba gl gr gf b := HM.out.db.2.1
  have HNB : ¬ (Blk4 ba gl gr gf b ∨ b = bm) := fun hi => hi.elim HM.out.db.2.1 HM.out.db.2.2
  have blk : ∀ i, Blk4 ba gl gr gf i → i < g0 := fun i hi => by rw [← HG0.out]; exact HM.out.lay.blk i hi
  have BX := Lib.hid (Five.new w2 (.int .i64 oi) (.int .i64 oc) (.int .u8 os) (.int .i64 op) (.int .i64 oq) 54)
  have o3 := o2.alloc (.cells #[.int .i64 oi, .int .i64 oc, .int .u8 os, .int .i64 op, .int .i64 oq] 54)
  have lay3 := lay2.keep ((Only.refl (fun _ => False) w2).alloc (.cells #[.int .i64 oi, .int .i64 oc, .int .u8 os, .int .i64 op, .int .i64 oq] 54)) (fun _ _ => id)
  obtain ⟨g1, hg1⟩ : ∃ g1, w2.heap.size = g1 := ⟨_, rfl⟩
  have hg01 : g0 < g1 := by have := o2.size; omega
  rw [hg1] at BX
  obtain ⟨W3, hW3⟩ : ∃ W3, w2.alloc (.cells #[.int .i64 oi, .int .i64 oc, .int .u8 os, .int .i64 op, .int .i64 oq] 54) = W3 := ⟨_, rfl⟩
  rw [hW3] at BX o3 lay3
  have HRES3 := Lib.hid (HRES.out.only o3 (fun hi => by have := blk _ hi; omega))
  obtain ⟨w4, hr4, im4, o4⟩ := (HM0.out.im.only o3 (fun hi => HM0.out.da bm hi rfl)).del HWW.out 0
  rw [HFF.out] at im4
  have lay4 := lay3.keep o4 (fun i hi hj => HM0.out.da i hi hj)
  have bml : bm < g0 := by rw [← HG0.out]; exact HM.out.im.lt
  have c5a := (HM0.out.c5.only o3 hbB).cell
  have c4a := ((HM0.out.c4.only o3 hbB).only o4 HM0.out.db.2.2).cell
  have HBX4 := Lib.hid (BX.out.only o4 (show ¬ g1 = bm by omega))
  have HRES4 := Lib.hid (HRES3.out.only o4 (show ¬ g0 = bm by omega))
  have HO4 := Lib.hid (show Only (fun i => Blk4 ba gl gr gf i ∨ i = bm) W0 w4 from (o3.mono fun i _ hi => .inl hi).trans (o4.mono fun i _ hi => .inr hi))
  have HL4 := Lib.hid lay4
  have HI4 := Lib.hid im4
  have HLEN4 := Lib.hid (HLEN.out w4 _ lay4)
  have z3 := cell_lt c5a
  have z4 := cell_lt c4a
  have HW3 := Lib.hid hW3
  have HG1 := Lib.hid hg1
  clear o2 lay2 o3 lay3 im4 o4 lay4 hW3 HLEN HTAKE HROW hl c5 c4 HRES3 BX hg1 o0 z0
  go_upto_region 6 with fail
  try rw [HG1.out]
  try rw [HW3.out]
  go_wp2_with fail
  refine HLEN4.out.mono ?_
  rintro e w5 ⟨rfl, rfl⟩
  go_upto_if 49 with fail
  go_cut [] (fun wc => ∃ hv' L', RemMid w w4 wc b1 (gu q) most (sgn q) (hv q) (L q) p r (decide (k0 = 0)) (.int .i64 oi) (.int .i64 oc) (.int .u8 os) (.int .i64 op) (.int .i64 oq) g1 g0 hv' L')
  case first =>
    have hsz : w.heap.size ≤ w4.heap.size := Nat.le_trans (by have := HO0.out.size; exact this) HO4.out.size
    have hsd4 : SideAt w4 b1 (gu q) most (sgn q) (hv q) (L q) := by
      rw [HB1.out]
      exact SideU.only (HM0.out.sd q) HO4.out fun i hi => fun hj => hj.elim (HM0.out.dq q i hi).1 (HM0.out.dq q i hi).2
    have HSD4 := Lib.hid hsd4
    by_cases h0 : k0 = 0
    · subst h0
      obtain ⟨kk, hkk⟩ := List.mem_iff_getElem?.1 HX.out
      have hpos := has_pos hsd4.hsg hsd4.srt hkk rfl
      simp only at hpos
      have HH := Lib.hid fun W (o : Only (fun _ => False) w4 W) => k_half_at (c0 := (((HM0.out.c0.only HO4.out HNB).only o id))) (c1 := (((HM0.out.c1.only HO4.out HNB).only o id))) (c2 := (((HM0.out.c2.only HO4.out HNB).only o id))) (c3 := (((HM0.out.c3.only HO4.out HNB).only o id))) q
      rw [← HSIDE.out, show (if q = true then bs true else bs false) = b1 by rw [HB1.out]; cases q <;> rfl] at HH
      have HD := Lib.hid fun W (o : Only (fun _ => False) w4 W) => Go.Proofs.Ytkglplngnjgnhaa.s_drop (SideU.only HSD4.out o (fun _ _ => id)) op kk (by rw [HPRICE.out]; exact hpos) r (by rw [HPRICE.out]; exact hkk)
      have hlt : ∀ i, SdB b1 (gu q) (hv q) i → i < g0 := fun i hi => by rw [← HG0.out]; exact HM.out.lt i (.inr (.inl ⟨q, by rw [← HB1.out]; exact hi⟩))
      have HLT := Lib.hid hlt
      have d2 := HBX4.out.c2.cell
      have d3 := HBX4.out.c3.cell
      have zd := cell_lt d2
      have KEEP := fun W (o : Only (SdB b1 (gu q) (hv q)) w4 W) => Lib.hid (show W.cell? ⟨g1, 2, none⟩ = some (.int .u8 os) ∧ W.cell? ⟨g1, 3, none⟩ = some (.int .i64 op) from ⟨o.cell d2 (fun hi => by have := hlt _ hi; omega), o.cell d3 (fun hi => by have := hlt _ hi; omega)⟩)
      have hfd := fieldHalf (.pointer (some ⟨b1, 0, none⟩)) (.int .i64 (fst most q : Nat))
      have HKK := Lib.hid hkk
      clear hkk hpos hsd4 hlt
      generalize fst most q = fs at *
      go_wp2_with fail
      go_region_held3 (fun W => W.cell? ⟨g1, 2, none⟩ = some (.int .u8 os) ∧ W.cell? ⟨g1, 3, none⟩ = some (.int .i64 op))
        (first | (refine (KEEP _ ?_).out; (repeat' (first | (with_reducible exact Only.refl _ _) | (with_reducible assumption) | (refine Only.of_none ?_; with_reducible assumption) | (with_reducible refine Only.drewN ?_ _) | (with_reducible refine Only.drew ?_) | (with_reducible refine Only.alloc ?_ _) | (with_reducible refine Only.setCell ?_ ?_ _) | (with_reducible refine Only.then0 ?_ (by with_reducible assumption)) | (with_reducible refine Only.thenN ?_ (by with_reducible assumption) ?_) | (with_reducible refine Only.trans ?_ (by with_reducible assumption)) | (refine .inl ?_; first | rfl | (simp; done) | (simp [Ar.blk]; done)) | (refine .inr ?_; first | omega | (simp; done) | (simp; omega) | exact Only.size (by with_reducible assumption) | (refine Nat.le_trans (Only.size (by with_reducible assumption)) ?_; simp; done)))); done))
        (first | (go_at_call 57; refine (HH.out _ (by repeat' (first | (with_reducible exact Only.refl _ _) | (with_reducible assumption) | (refine Only.of_none ?_; with_reducible assumption) | (with_reducible refine Only.drewN ?_ _) | (with_reducible refine Only.drew ?_) | (with_reducible refine Only.alloc ?_ _) | (with_reducible refine Only.setCell ?_ ?_ _) | (with_reducible refine Only.then0 ?_ (by with_reducible assumption)) | (with_reducible refine Only.thenN ?_ (by with_reducible assumption) ?_) | (with_reducible refine Only.trans ?_ (by with_reducible assumption)) | (refine .inl ?_; first | rfl | (simp; done) | (simp [Ar.blk]; done)) | (refine .inr ?_; first | omega | (simp; done) | (simp; omega) | exact Only.size (by with_reducible assumption) | (refine Nat.le_trans (Only.size (by with_reducible assumption)) ?_; simp; done))))).mono ?_; rintro e w7 ⟨rfl, o7⟩; have OO7 : Only (fun _ => False) w4 w7 := (by repeat' (first | (with_reducible exact Only.refl _ _) | (with_reducible assumption) | (refine Only.of_none ?_; with_reducible assumption) | (with_reducible refine Only.drewN ?_ _) | (with_reducible refine Only.drew ?_) | (with_reducible refine Only.alloc ?_ _) | (with_reducible refine Only.setCell ?_ ?_ _) | (with_reducible refine Only.then0 ?_ (by with_reducible assumption)) | (with_reducible refine Only.thenN ?_ (by with_reducible assumption) ?_) | (with_reducible refine Only.trans ?_ (by with_reducible assumption)) | (refine .inl ?_; first | rfl | (simp; done) | (simp [Ar.blk]; done)) | (refine .inr ?_; first | omega | (simp; done) | (simp; omega) | exact Only.size (by with_reducible assumption) | (refine Nat.le_trans (Only.size (by with_reducible assumption)) ?_; simp; done)))); clear o7) | (go_at_call 12; refine (HD.out _ (by repeat' (first | (with_reducible exact Only.refl _ _) | (with_reducible assumption) | (refine Only.of_none ?_; with_reducible assumption) | (with_reducible refine Only.drewN ?_ _) | (with_reducible refine Only.drew ?_) | (with_reducible refine Only.alloc ?_ _) | (with_reducible refine Only.setCell ?_ ?_ _) | (with_reducible refine Only.then0 ?_ (by with_reducible assumption)) | (with_reducible refine Only.thenN ?_ (by with_reducible assumption) ?_) | (with_reducible refine Only.trans ?_ (by with_reducible assumption)) | (refine .inl ?_; first | rfl | (simp; done) | (simp [Ar.blk]; done)) | (refine .inr ?_; first | omega | (simp; done) | (simp; omega) | exact Only.size (by with_reducible assumption) | (refine Nat.le_trans (Only.size (by with_reducible assumption)) ?_; simp; done))))).mono ?_; intro e w8 hpost; obtain ⟨hv', rfl, sd8, o8, loc8⟩ := hpost; have OO8 : Only (SdB b1 (gu q) (hv q)) w4 w8 := ((Only.of_none OO7).trans o8); have HS8 := Lib.hid sd8; have HL8 := Lib.hid loc8; clear sd8 o8 loc8))
      all_goals
        go_wp2_with fail
        go_meet
        refine ⟨_, _, ⟨OO8, HS8.out, ?_, HBX4.out.only OO8 (fun hi => by have := HLT.out _ hi; omega), ⟨_, _, _, _, _, HRES4.out.only OO8 (fun hi => by have := HLT.out _ hi; omega)⟩, .inr ⟨rfl, kk, HKK.out, rfl⟩⟩⟩
        rcases HL8.out with e | ⟨g, e, hg⟩
        · exact .inl e
        · exact .inr ⟨g, e, by have := OO7.size; have := HBX4.out.c0.lt; omega⟩
    · have t1 : (((k0 : Nat) : Int) == 0) = false := by simpa using h0
      have e0 : decide (k0 = 0) = false := by simpa using h0
      have HE0 := Lib.hid e0
      clear h0 e0 hsd4
      go_wp2_with fail
      go_meet
      exact ⟨_, _, ⟨Only.refl _ _, HSD4.out, .inl rfl, HBX4.out, ⟨_, _, _, _, _, HRES4.out⟩, .inl ⟨HE0.out, rfl⟩⟩⟩
  case rest =>
    obtain ⟨hv', L', hmid⟩ := hcut
    obtain ⟨u0, u1, u2, u3, u4, hres⟩ := hmid.res
    have d0 := hmid.box.c0.cell; have d1 := hmid.box.c1.cell; have d2 := hmid.box.c2.cell; have d3 := hmid.box.c3.cell; have d4 := hmid.box.c4.cell
    have f0 := hres.c0.free; have f1 := hres.c1.free; have f2 := hres.c2.free; have f3 := hres.c3.free; have f4 := hres.c4.free
    have e0 := hres.c0.cell; have e1 := hres.c1.cell; have e2 := hres.c2.cell; have e3 := hres.c3.cell; have e4 := hres.c4.cell
    have P := hres.put (.int .i64 oi) (.int .i64 oc) (.int .u8 os) (.int .i64 op) (.int .i64 oq)
    have p0 := P.c0.cell; have p1 := P.c1.cell; have p2 := P.c2.cell; have p3 := P.c3.cell; have p4 := P.c4.cell
    have zr := cell_lt e0
    have zb := cell_lt d0
    have OP := Lib.hid (put5_only (w := wc) (g := g0) (S := (· = g0)) (Only.refl _ wc) (.inl rfl) (.int .i64 oi) (.int .i64 oc) (.int .u8 os) (.int .i64 op) (.int .i64 oq))
    have HMID := Lib.hid hmid
    have HBLK := Lib.hid blk
    clear hmid hres P c4a c5a z3 z4 hr4 HLEN4 blk
    go_wp2_with fail
    refine bodyPost_ret (by simp [results, Try.results28, go_sem, p0, p1, p2, p3, p4]; try rfl) rfl ?_
    have M := HMID.out
    have hlt : ∀ i, SdB b1 (gu q) hv' i → i ≠ g0 ∧ ¬ Blk4 ba gl gr gf i ∧ i ≠ bm := fun i hi => by
      have old : SdB (bs q) (gu q) (hv q) i → i ≠ g0 ∧ ¬ Blk4 ba gl gr gf i ∧ i ≠ bm := fun h => ⟨fun e => by have := HM.out.lt i (.inr (.inl ⟨q, h⟩)); rw [HG0.out] at this; omega, (HM.out.dq q i h).1, (HM.out.dq q i h).2⟩
      rcases hi with h1 | h1 | h1
      · exact old (by rw [← HB1.out]; exact .inl h1)
      · exact old (by rw [← HB1.out]; exact .inr (.inl h1))
      · rcases M.loc with h2 | ⟨g, h2, h3⟩
        · exact old (.inr (.inr (by rw [← h2]; exact h1)))
        · rw [h2] at h1; injection h1 with h1
          exact ⟨by omega, fun h => by have := HBLK.out _ h; omega, by omega⟩
    have oR := OP.out
    have hsdR := SideU.only M.sd oR (fun i hi => (hlt i hi).1)
    rw [HB1.out] at hsdR
    have hO : Only (BkS bs gu hv ba gl gr gf bm q) W0 wc := (HO4.out.mono fun i _ hi => hi.elim (fun h => .inr (.inl h)) (fun h => .inr (.inr h))).trans (M.only.mono fun i _ hi => .inl (by rw [← HB1.out]; exact hi))
    have hS : ∀ i, SdB b1 (gu q) (hv q) i → ¬ Blk4 ba gl gr gf i ∧ i ≠ bm := fun i hi => HM.out.dq q i (by rw [← HB1.out]; exact hi)
    have hlayR := (HL4.out.keep M.only (fun i hi hj => (hS i hj).1 hi)).keep oR (fun i hi (e : i = g0) => by have := HBLK.out i hi; omega)
    have himR := (HI4.out.only M.only (fun hj => (hS bm hj).2 rfl)).only oR (show ¬ bm = g0 by omega)
    rw [HFR.out] at hlayR
    refine HM.out.post q (F' := fdel F k) (V' := V') (L' := L') (hv' := hv') (R' := Od.upd R (fst most q + r) (l1 ++ l2)) (l' := setS l q (delL k (l q))) rfl ?_ hsdR ?_ hlayR ?_ ?_
    · refine ((HO0.out.mono fun _ _ h => h.elim).trans (hO.mono fun i _ hi => hi)).trans' oR (fun i hi e => ?_)
      rw [HG0.out] at hi
      omega
    · rcases M.loc with h2 | ⟨g, h2, h3⟩
      · exact .inl h2
      · exact .inr ⟨g, h2, by rw [HG0.out]; omega⟩
    · rw [HDL.out]; exact himR
    · have R1 := HREP.out L' ?_
      · rw [HFR.out] at R1; exact R1
      · rcases M.alt with ⟨h1, h2⟩ | ⟨h1, kk, h2, h3⟩
        · refine .inl ⟨fun h => ?_, h2⟩
          rw [HK0.out, h] at h1
          simp at h1
        · refine .inr ⟨?_, kk, h2, h3⟩
          rw [HK0.out] at h1
          simpa using h1
end
end Go.Proofs.Ytkglplngnjgnhaa
