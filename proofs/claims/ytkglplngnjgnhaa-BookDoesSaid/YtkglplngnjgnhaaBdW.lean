/- BookDoes: the walk. No condition. -/
import Derived.Test.YtkglplngnjgnhaaBd4
import Derived.Test.YtkglplngnjgnhaaBkX
namespace Go.Proofs.Ytkglplngnjgnhaa
set_option linter.unusedVariables false
set_option linter.unusedSimpArgs false
open Go.RowKit Go.Shelf
open Od (OrdR)

theorem bnew_no (w : World) (x0 x1 : Int) (h : x0 < 0 ∨ 256 < x0 ∨ x1 < 0 ∨ 128 < x1) : Calls Try.prog 23 #[.int .i64 x0, .int .i64 x1] w fun e w' => e = .returned (.tuple #[.pointer none, .int .i64 1]) ∧ Only (fun _ => False) w w' := by
  by_cases h1 : x0 < 0 ∨ 256 < x0
  · exact k_new_room w x0 x1 h1
  · exact k_new_most w x0 x1 (by omega) (by omega) (by omega)

set_option maxHeartbeats 1000000 in
set_option maxRecDepth 100000 in
theorem bookDoes_no (w : World) (x0 x1 : Int) (h : x0 < 0 ∨ 256 < x0 ∨ x1 < 0 ∨ 128 < x1) (a : Option Addr) (len cap : Nat) :
    Calls Try.prog 7 #[.int .i64 x0, .int .i64 x1, .slice a len cap] w fun e w' => e = .returned (.bool true) ∧ Only (fun _ => False) w w' := by
  have S0 := fun W => Lib.hid (bnew_no W x0 x1 h)
  have S1 := fun W => Lib.hid (r6_new_no W x0 x1 h)
  clear h
  go_enter Try.func7, Try.ntmps7
  go_wp2_with fail
  refine (bworks_walk _).mono ?_
  rintro e w1 ⟨rfl, o1⟩
  go_wp2_with fail
  refine (S0 _).out.mono ?_
  rintro e w2 ⟨rfl, o2⟩
  go_wp2_with fail
  refine (S1 _).out.mono ?_
  rintro e w3 ⟨rfl, o3⟩
  go_wp2_with fail
  go_returns
  exact ⟨rfl, by repeat' (first | (with_reducible exact Only.refl _ _) | (with_reducible assumption) | (refine Only.of_none ?_; with_reducible assumption) | (with_reducible refine Only.drewN ?_ _) | (with_reducible refine Only.drew ?_) | (with_reducible refine Only.alloc ?_ _) | (with_reducible refine Only.setCell ?_ ?_ _) | (with_reducible refine Only.then0 ?_ (by with_reducible assumption)) | (with_reducible refine Only.thenN ?_ (by with_reducible assumption) ?_) | (with_reducible refine Only.trans ?_ (by with_reducible assumption)) | (refine .inl ?_; first | rfl | (simp; done) | (simp [Ar.blk]; done)) | (refine .inr ?_; first | omega | (simp; done) | (simp; omega) | exact Only.size (by with_reducible assumption) | (refine Nat.le_trans (Only.size (by with_reducible assumption)) ?_; simp; done)))⟩

def ex4 : OrdR := ⟨1, 2, 1, 3, 4⟩
def exT : Bool → List OrdR := fun q => if q then [] else [ex4]
theorem ex4_i : insE 1 1 (fun _ => []) ex4 = 0 := by decide
theorem ex4_s : insS 1 1 (fun _ => []) ex4 = exT := by unfold insS; rw [if_pos ex4_i]; funext q; cases q <;> rfl
theorem ex4_g : getL exT 1 = some ex4 := by rfl

set_option maxHeartbeats 4000000 in
set_option maxRecDepth 100000 in
theorem bookDoes_yes (w : World) (room most : Nat) (hr : room ≤ 256) (hm : most ≤ 128) (a : Option Addr) (len cap : Nat) (rows : List (List Value)) (hs : SliceIn w a len cap [.i .i64, .i .i64, .i .i64, .i .u8, .i .i64, .i .i64, .i .u8, .i .i64, .i .i64] rows) (hlen : len * 72 ≤ 140737488351232) :
    Calls Try.prog 7 #[.int .i64 room, .int .i64 most, .slice a len cap] w fun e w' => e = .returned (.bool true) ∧ Only (fun _ => False) w w' := by
  have S0 := fun W => Lib.hid (k_new W room most hr hm)
  have S1 := fun W => Lib.hid (r6_new W room most hr hm)
  have S2 := fun W => Lib.hid (show Calls Try.prog 23 #[.int .i64 1, .int .i64 1] W (BkNew W 1 1) from k_new W 1 1 (by decide) (by decide))
  have HSS := Lib.hid hs
  clear hr hm hs
  go_enter Try.func7, Try.ntmps7
  go_wp2_with fail
  refine (bworks_walk _).mono ?_
  rintro e w1 ⟨rfl, o1⟩
  go_wp2_with fail
  refine (S0 _).out.mono ?_
  intro e w2 hq
  obtain ⟨b, T, rfl, L2, o2, k2⟩ := hq
  have L2 := Lib.hid L2
  go_wp2_with fail
  refine (S1 _).out.mono ?_
  intro e w3 hq
  obtain ⟨r, T6, rfl, R3, o3, k3⟩ := hq
  have R3 := Lib.hid R3
  go_wp2_with fail
  refine (S2 _).out.mono ?_
  intro e w4 hq
  obtain ⟨b4, T4, rfl, B4, o4, k4⟩ := hq
  have HF4 := Lib.hid (Five.new w4 (.int .i64 1) (.int .i64 2) (.int .u8 1) (.int .i64 3) (.int .i64 4) 54)
  have oA := (Only.refl (fun _ => False) w4).alloc (.cells #[.int .i64 1, .int .i64 2, .int .u8 1, .int .i64 3, .int .i64 4] 54)
  have B4' := B4.only oA (fun _ _ => id)
  have hb4 := B4.lt
  have HP := Lib.hid (show Calls Try.prog 24 #[.pointer (some ⟨b4, 0, none⟩), .agg #[.int .i64 1, .int .i64 2, .int .u8 1, .int .i64 3, .int .i64 4]] (w4.alloc (.cells #[.int .i64 1, .int .i64 2, .int .u8 1, .int .i64 3, .int .i64 4] 54)) (BkPost (w4.alloc (.cells #[.int .i64 1, .int .i64 2, .int .u8 1, .int .i64 3, .int .i64 4] 54)) b4 T4 1 1 exT (.int .i64 0)) from by
    have := bk_insert B4' ex4 rfl
    rw [ex4_i, ex4_s] at this
    exact this)
  have OA := Lib.hid oA
  clear B4 B4' oA S0 S1 S2
  go_wp2_with fail
  refine HP.out.mono ?_
  intro e w5 hq
  obtain ⟨T5, rfl, L5, o5, k5⟩ := hq
  have L5 := Lib.hid L5
  have O5 := Lib.hid o5
  have K5 := Lib.hid k5
  have z5 := o5.size
  rw [World.size_alloc] at z5
  clear o5 k5 HP
  go_wp2_with fail
  have hz5 := z5
  have hz4 := o4.size
  have hz3 := o3.size
  have hz2 := o2.size
  have hz1 := o1.size
  have hb2 := L2.out.lt
  have hb3 := R3.out.lt
  have hb5 := L5.out.lt
  obtain ⟨W6, hW6⟩ : ∃ W6, w5.alloc (.cells #[.slice none 0 0, .slice none 0 0, .slice none 0 0, .slice none 0 0, .slice none 0 0, .slice none 0 0, .slice none 0 0, .slice none 0 0, .slice none 0 0, .slice none 0 0, .slice none 0 0] 81) = W6 := ⟨_, rfl⟩
  have o6 : Only (fun _ => False) w5 W6 := by rw [← hW6]; exact (Only.refl _ _).alloc _
  have hB6 : W6.heap.size = w5.heap.size + 1 := by rw [← hW6]; simp
  have hc6 : ∀ o, o < 11 → Cell W6 w5.heap.size o (.slice none 0 0) := fun o ho => by
    rw [← hW6]
    refine Cell.new ?_
    match o, ho with
    | 0, _ => rfl
    | 1, _ => rfl
    | 2, _ => rfl
    | 3, _ => rfl
    | 4, _ => rfl
    | 5, _ => rfl
    | 6, _ => rfl
    | 7, _ => rfl
    | 8, _ => rfl
    | 9, _ => rfl
    | 10, _ => rfl
    | n + 11, h => omega
  have hlo5 : ∀ i, T5 i → w3.heap.size ≤ i := fun i hi => by
    rcases K5.out i hi with h | h
    · exact k4 i h
    · rw [World.size_alloc] at h; omega
  obtain ⟨Z, hZd⟩ : ∃ Z : Nat → Prop, Z = fun i => w1.heap.size ≤ i ∧ ¬ T5 i ∧ i ≠ w4.heap.size := ⟨_, rfl⟩
  have q2 : Bk w5 b T most room (fun _ => []) := (((L2.out.only o3 (fun _ _ => id)).only o4 (fun _ _ => id)).only OA.out (fun _ _ => id)).only O5.out (fun i hi hB => by have := hb2 i hi; have := k4 i hB; omega)
  have q3 : R6 w5 r T6 most room (fun _ => []) := ((R3.out.only o4 (fun _ _ => id)).only OA.out (fun _ _ => id)).only O5.out (fun i hi hB => by have := hb3 i hi; have := k4 i hB; omega)
  have P6 : BD Z W6.heap.size b r w5.heap.size most room 0 (fun _ => []) W6.heap.size W6 := by
    refine ⟨Nat.le_refl _, T, T6, _, q2.only o6 (fun _ _ => id), q3.only o6 (fun _ _ => id), OwL.Ow.start hc6, fun i hi => ?_, fun i hi => ?_, fun i hi => ?_⟩
    · have h1 := hb2 i hi; have h2 := k2 i hi
      refine ⟨⟨by rw [hZd]; exact ⟨h2, fun hB => by have := hlo5 i hB; omega, by omega⟩, by omega⟩, fun hB => by have := k3 i hB; omega, fun hB => by have hB : i = w5.heap.size := hB; omega⟩
    · have h1 := hb3 i hi; have h2 := k3 i hi
      refine ⟨⟨by rw [hZd]; exact ⟨by omega, fun hB => by have := hlo5 i hB; omega, by omega⟩, by omega⟩, fun hB => by have hB : i = w5.heap.size := hB; omega⟩
    · have hi : i = w5.heap.size := hi
      subst hi
      exact ⟨by rw [hZd]; exact ⟨by omega, fun hB => by have := hb5 _ hB; omega, by omega⟩, by omega⟩
  have hZ : ∀ i, W6.heap.size ≤ i → Z i := fun i hi => by rw [hZd]; exact ⟨by omega, fun hB => by have := hb5 i hB; omega, by omega⟩
  have hst : ∀ i, T5 i → ¬ Z i := fun i hi hB => by rw [hZd] at hB; exact hB.2.1 hi
  have hso : ¬ Z w4.heap.size := fun hB => by rw [hZd] at hB; exact hB.2.2 rfl
  have hnb : ∀ i, Z i → w.heap.size ≤ i := fun i hB => by rw [hZd] at hB; have := hB.1; omega
  have o05 : Only (fun _ => False) w W6 := (((((o1.trans o2).trans o3).trans o4).trans OA.out).trans' O5.out (fun i hi hB => by have := k4 i hB; omega)).trans o6
  have f6 := ((HF4.out.only O5.out (fun hB => by have := hb4 _ hB; omega))).only o6 id
  have L6 := Lib.hid (L5.out.only o6 (fun _ _ => id))
  have P6 := Lib.hid P6
  have F6 := Lib.hid f6
  have HZ := Lib.hid hZ
  have HST := Lib.hid hst
  have HSO := Lib.hid hso
  have HNB := Lib.hid hnb
  have O06 := Lib.hid o05
  have HW6 := Lib.hid hW6
  have hbz : w5.heap.size < W6.heap.size := by omega
  obtain ⟨go, hgo⟩ : ∃ go, w4.heap.size = go := ⟨_, rfl⟩
  obtain ⟨bo, hbo⟩ : ∃ bo, w5.heap.size = bo := ⟨_, rfl⟩
  rw [hgo] at F6 HSO
  rw [hbo] at P6 hbz
  have HGO := Lib.hid hgo
  have HBO := Lib.hid hbo
  obtain ⟨B0, hB0⟩ : ∃ B0, W6.heap.size = B0 := ⟨_, rfl⟩
  rw [hB0] at P6 HZ
  have P6 := Lib.hid (hB0 ▸ P6.out : BD Z B0 b r bo most room 0 (fun _ => []) W6.heap.size W6)
  clear o1 o2 o3 o4 k2 k3 k4 hb2 hb3 hb4 hb5 hlo5 q2 q3 hZ hst hso hnb o05 f6 hW6 hgo hbo hZd o6 hB6 hc6 hz1 hz2 hz3 hz4 hz5 z5 L2 R3 L5 O5 K5 HF4 OA hbz hB0
  rw [HGO.out, HBO.out, HW6.out]
  go_loopw [16] (fun s wr => ∃ (k m : Nat) (l : Bool → List OrdR), k ≤ len ∧ m ≤ k ∧ s = .int .i64 k ∧ BD Z B0 b r bo most room m l wr.heap.size wr ∧ Bk wr b4 T5 1 1 exT ∧ Five wr go (.int .i64 1) (.int .i64 2) (.int .u8 1) (.int .i64 3) (.int .i64 4) ∧ Only (fun _ => False) w wr)
    (fun s _ => len - (intOf s).toNat)
  case atStart => exact ⟨0, 0, _, by omega, by omega, rfl, P6.out, L6.out, F6.out, O06.out⟩
  case round =>
    clear P6 L6 F6 O06 HW6
    obtain ⟨k, m, l, hk, hmk, rfl, hP, hB, hF, ho⟩ := hrel
    by_cases hlt : k < len
    · obtain ⟨B, off, ha, hBl, hcell⟩ := HSS.out.at_ (by omega) (by decide)
      subst ha
      obtain ⟨rw', hr⟩ : ∃ r, rows[k]? = some r := ⟨_, List.getElem?_eq_getElem (by rw [HSS.out.1]; exact hlt)⟩
      obtain ⟨kind, _, rfl, hw0, hf⟩ := fits_i (HSS.out.2.1 rw' (List.mem_of_getElem? hr))
      obtain ⟨oi, _, rfl, hw1, hf⟩ := fits_i hf
      obtain ⟨oc, _, rfl, hw2, hf⟩ := fits_i hf
      obtain ⟨os, _, rfl, hw3, hf⟩ := fits_i hf
      obtain ⟨op, _, rfl, hw4, hf⟩ := fits_i hf
      obtain ⟨oq, _, rfl, hw5, hf⟩ := fits_i hf
      obtain ⟨sd, _, rfl, hw6, hf⟩ := fits_i hf
      obtain ⟨pp, _, rfl, hw7, hf⟩ := fits_i hf
      obtain ⟨num, _, rfl, hw8, hf⟩ := fits_i hf
      obtain rfl := fits_nil hf
      have r0 := ho.cell (hcell k _ hr 0 _ rfl) id
      have r1 := ho.cell (hcell k _ hr 1 _ rfl) id
      have r2 := ho.cell (hcell k _ hr 2 _ rfl) id
      have r3 := ho.cell (hcell k _ hr 3 _ rfl) id
      have r4 := ho.cell (hcell k _ hr 4 _ rfl) id
      have r5 := ho.cell (hcell k _ hr 5 _ rfl) id
      have r6 := ho.cell (hcell k _ hr 6 _ rfl) id
      have r7 := ho.cell (hcell k _ hr 7 _ rfl) id
      have r8 := ho.cell (hcell k _ hr 8 _ rfl) id
      simp only [List.length_cons, List.length_nil, Nat.zero_add, Nat.reduceAdd, Nat.add_zero] at r0 r1 r2 r3 r4 r5 r6 r7 r8
      have hbr : B < wr.heap.size := Nat.lt_of_lt_of_le hBl ho.size
      have t1 : decide (k < len) = true := by simpa using hlt
      have i1 : (0 : Int) ≤ (k : Int) ∧ (k : Int) < (len : Int) := by omega
      have w1' : IntKind.i64.wrap ((k : Int) + 1) = (k : Int) + 1 := by rw [IntKind.wrap_i64]; omega
      have HD := Lib.hid (s_does6 HZ.out (by omega) hP kind oi oc os op oq sd pp num hw1 hw8)
      have HB := Lib.hid hB
      have HF := Lib.hid hF
      have HO := Lib.hid ho
      clear hcell hf hr hP hB hF hw0 hw1 hw2 hw3 hw4 hw5 hw6 hw7 hw8 ho
      go_wp2_with fail
      refine HD.out.mono ?_
      rintro e w6 ⟨rfl, p6, o6⟩
      have P6 := Lib.hid p6
      have O6 := Lib.hid o6
      clear p6 HD o6
      go_wp2_with fail
      go_roundw
      case rel =>
        obtain ⟨l', m', hm', p6⟩ := P6.out
        exact ⟨k + 1, m', l', by omega, by omega, by go_num, p6, HB.out.only O6.out HST.out, HF.out.only O6.out HSO.out, HO.out.trans' O6.out (fun i hi hB => by have := HNB.out i hB; omega)⟩
      case measure => simp [intOf]; omega
    · have t1 : decide (k < len) = false := by simpa using hlt
      have HK := Lib.hid (s_looks6 hP)
      have HG := Lib.hid fun W (o : Only (fun _ => False) wr W) => (show Calls Try.prog 32 #[.pointer (some ⟨b4, 0, none⟩), .int .i64 1] W (fun e w' => e = .returned (.tuple #[.agg #[.int .i64 1, .int .i64 2, .int .u8 1, .int .i64 3, .int .i64 4], .bool true]) ∧ Only (fun _ => False) W w') from bk_get (hB.only o fun _ _ => id) 1 rfl)
      have HOW := Lib.hid fun W (o : Only (fun _ => False) wr W) => (show Calls Try.prog 33 #[.pointer (some ⟨bo, 0, none⟩)] W (fun e w' => e = .returned (.bool true) ∧ Only (fun i => Z i ∧ i < wr.heap.size) W w') from by
        obtain ⟨_, T, T6, TO, _, _, k3, _, _, k6⟩ := hP
        exact (OwL.ow_own (k3.only o fun _ _ => id) (by omega)).mono fun e w' ⟨he, ho⟩ => ⟨he, ho.mono fun i _ hi => k6 i hi⟩)
      have HF := Lib.hid hF
      have HO := Lib.hid ho
      clear hP hB hF ho
      go_wp2_with fail
      refine HK.out.mono ?_
      rintro e w6 ⟨rfl, o6⟩
      go_wp2_with fail
      refine (HG.out _ o6).mono ?_
      rintro e w7 ⟨rfl, o7⟩
      have HP7 := Lib.hid (Five.new w7 (.int .i64 1) (.int .i64 2) (.int .u8 1) (.int .i64 3) (.int .i64 4) 54)
      go_wp2_with fail
      refine (HOW.out _ (by repeat' (first | (with_reducible exact Only.refl _ _) | (with_reducible assumption) | (refine Only.of_none ?_; with_reducible assumption) | (with_reducible refine Only.drewN ?_ _) | (with_reducible refine Only.drew ?_) | (with_reducible refine Only.alloc ?_ _) | (with_reducible refine Only.setCell ?_ ?_ _) | (with_reducible refine Only.then0 ?_ (by with_reducible assumption)) | (with_reducible refine Only.thenN ?_ (by with_reducible assumption) ?_) | (with_reducible refine Only.trans ?_ (by with_reducible assumption)) | (refine .inl ?_; first | rfl | (simp; done) | (simp [Ar.blk]; done)) | (refine .inr ?_; first | omega | (simp; done) | (simp; omega) | exact Only.size (by with_reducible assumption) | (refine Nat.le_trans (Only.size (by with_reducible assumption)) ?_; simp; done))))).mono ?_
      rintro e w8 ⟨rfl, o8⟩
      have zz : wr.heap.size ≤ w7.heap.size := Nat.le_trans o6.size o7.size
      have F8 := (((HF.out.only o6 id).only o7 id).only ((Only.refl (fun _ => False) w7).alloc _) id).only o8 (fun h => HSO.out h.1)
      have G8 := HP7.out.onlyN o8 zz
      have y0 := F8.c0.cell; have y1 := F8.c1.cell; have y2 := F8.c2.cell; have y3 := F8.c3.cell; have y4 := F8.c4.cell; have yz := cell_lt y0
      have g0 := G8.c0.cell; have g1 := G8.c1.cell; have g2 := G8.c2.cell; have g3 := G8.c3.cell; have g4 := G8.c4.cell; have gz := cell_lt g0
      have HFIN := Lib.hid (show Only (fun _ => False) w w8 from (((HO.out.trans o6).trans o7).alloc _).trans' o8 (fun i hi hB => by have := HNB.out i hB.1; omega))
      clear F8 G8 HF HP7 o8
      go_wp2_with fail
      go_returns
      exact ⟨rfl, HFIN.out⟩

theorem bookDoes_walk (w : World) (x0 : Int) (wf0 : (Lit.int .i64 x0).wf = true) (x1 : Int) (wf1 : (Lit.int .i64 x1).wf = true) (a : Option Addr) (len cap : Nat) (rows : List (List Value)) (hs : SliceIn w a len cap [.i .i64, .i .i64, .i .i64, .i .u8, .i .i64, .i .i64, .i .u8, .i .i64, .i .i64] rows) (hlen : len * 72 ≤ 140737488351232) :
    Calls Try.prog 7 #[.int .i64 x0, .int .i64 x1, .slice a len cap] w fun e w' => e = .returned (.bool true) ∧ Below w.heap.size w w' := by
  by_cases h : x0 < 0 ∨ 256 < x0 ∨ x1 < 0 ∨ 128 < x1
  · exact (bookDoes_no w x0 x1 h a len cap).mono fun _ _ ⟨he, ho⟩ => ⟨he, ho.below⟩
  · obtain ⟨room, rfl⟩ : ∃ k : Nat, x0 = k := ⟨x0.toNat, by omega⟩
    obtain ⟨most, rfl⟩ : ∃ k : Nat, x1 = k := ⟨x1.toNat, by omega⟩
    exact (bookDoes_yes w room most (by omega) (by omega) a len cap rows hs hlen).mono fun _ _ ⟨he, ho⟩ => ⟨he, ho.below⟩
end Go.Proofs.Ytkglplngnjgnhaa
