/- PlanAmends: the walk. No condition. -/
import Derived.Test.YtilngakgofjmpaaPls
import Derived.Test.YtilngakgofjmpaaPlu
import Derived.Test.YtilngakgofjmpaaPlj
namespace Go.Proofs.Ytilngakgofjmpaa
set_option linter.unusedVariables false
set_option linter.unusedSimpArgs false
open Go.RowKit Go.Shelf
open Od (OrdR)

set_option maxRecDepth 100000 in
set_option maxHeartbeats 4000000 in
theorem planAmends_no (w : World) (x0 : Int) (h : x0 < 0 ∨ 128 < x0) (a : Option Addr) (len cap : Nat) (k p q : Int) :
    Calls Try.prog 14 #[.int .i64 x0, .slice a len cap, .int .i64 k, .int .i64 p, .int .i64 q] w fun e w' => e = .returned (.bool true) ∧ Only (fun _ => False) w w' := by
  by_cases h0 : x0 < 0
  · have t1 : decide (x0 < 0) = true := by simpa using h0
    clear h h0
    go_enter Try.func14, Try.ntmps14
    go_wp2_with fail
    refine (pworks_walk _).mono ?_
    rintro en w1 ⟨rfl, o1⟩
    go_wp2_with fail
    go_returns
    exact ⟨rfl, by repeat' (first | (with_reducible exact Only.refl _ _) | (with_reducible assumption) | (refine Only.of_none ?_; with_reducible assumption) | (with_reducible refine Only.drewN ?_ _) | (with_reducible refine Only.drew ?_) | (with_reducible refine Only.alloc ?_ _) | (with_reducible refine Only.setCell ?_ ?_ _) | (with_reducible refine Only.then0 ?_ (by with_reducible assumption)) | (with_reducible refine Only.thenN ?_ (by with_reducible assumption) ?_) | (with_reducible refine Only.trans ?_ (by with_reducible assumption)) | (refine .inl ?_; first | rfl | (simp; done) | (simp [Ar.blk]; done)) | (refine .inr ?_; first | omega | (simp; done) | (simp; omega) | exact Only.size (by with_reducible assumption) | (refine Nat.le_trans (Only.size (by with_reducible assumption)) ?_; simp; done)))⟩
  · have t1 : decide (x0 < 0) = false := by simpa using h0
    have t2 : decide (128 < x0) = true := by simp; omega
    clear h h0
    go_enter Try.func14, Try.ntmps14
    go_wp2_with fail
    refine (pworks_walk _).mono ?_
    rintro en w1 ⟨rfl, o1⟩
    go_wp2_with fail
    go_returns
    exact ⟨rfl, by repeat' (first | (with_reducible exact Only.refl _ _) | (with_reducible assumption) | (refine Only.of_none ?_; with_reducible assumption) | (with_reducible refine Only.drewN ?_ _) | (with_reducible refine Only.drew ?_) | (with_reducible refine Only.alloc ?_ _) | (with_reducible refine Only.setCell ?_ ?_ _) | (with_reducible refine Only.then0 ?_ (by with_reducible assumption)) | (with_reducible refine Only.thenN ?_ (by with_reducible assumption) ?_) | (with_reducible refine Only.trans ?_ (by with_reducible assumption)) | (refine .inl ?_; first | rfl | (simp; done) | (simp [Ar.blk]; done)) | (refine .inr ?_; first | omega | (simp; done) | (simp; omega) | exact Only.size (by with_reducible assumption) | (refine Nat.le_trans (Only.size (by with_reducible assumption)) ?_; simp; done)))⟩

set_option maxRecDepth 100000 in
set_option maxHeartbeats 8000000 in
theorem planAmends_yes (w : World) (most : Nat) (hm : most ≤ 128) (a : Option Addr) (cap : Nat) (L : List OrdR) (hL : OrdIn w a L) (hwf : ∀ o ∈ L, Wf o.i) (hl : L.length ≤ 1000000000000000) (k p q : Int) (hk : Wf k) :
    Calls Try.prog 14 #[.int .i64 (most : Nat), .slice a L.length cap, .int .i64 k, .int .i64 p, .int .i64 q] w fun e w' => e = .returned (.bool true) ∧ Only (fun _ => False) w w' := by
  have HLD := Lib.hid fun W (o : Only (fun _ => False) w W) => (show Calls Try.prog 52 #[.int .i64 256, .int .i64 (most : Nat), .slice a L.length cap] W (LaidPost W most 256 L) from k_laid W 256 most (by decide) hm L a cap (hL.only o (fun _ _ => id)) hwf hl)
  have t1 : decide ((most : Int) < 0) = false := by simp
  have t2 : decide (128 < most) = false := by simp; omega
  have t2' : decide ((128 : Int) < (most : Int)) = false := by simp; omega
  obtain ⟨len, hlen⟩ : ∃ len, len = L.length := ⟨_, rfl⟩
  rw [← hlen] at HLD ⊢
  clear hL hwf hl hlen hm
  go_enter Try.func14, Try.ntmps14
  go_wp2_with fail
  refine (pworks_walk _).mono ?_
  rintro en w1 ⟨rfl, o1⟩
  go_wp2_with fail
  refine (HLD.out _ o1).mono ?_
  intro en w2 hq
  obtain ⟨b, r, T, T6, rfl, hBP⟩ := hq
  have o2 : Only (fun _ => False) w w2 := o1.trans hBP.only
  have hgd := hBP.bk.good
  obtain ⟨l, hl⟩ : ∃ l, l = laidL most 256 L := ⟨_, rfl⟩
  rw [← hl] at hBP hgd
  have HOR := Lib.hid fun W (o : Only (fun _ => False) w2 W) => k_allOrders (hBP.bk.only o (fun _ _ => id))
  have HAM := Lib.hid fun W (o : Only (fun _ => False) w2 W) => k_Amend (hBP.bk.only o (fun _ _ => id)) k p q hk
  have HRA := Lib.hid fun W (o : Only (fun _ => False) w2 W) => (show Calls Try.prog 59 #[.pointer (some ⟨r, 0, none⟩), .int .i64 k, .int .i64 p, .int .i64 q] W (PlanPost W (amendC most 256 l k p q)) from by
    rw [amendC_D hgd]
    obtain ⟨vv, hM, _⟩ := hBP.r6.only o (fun _ _ => id)
    exact r_Amend hM hgd k p q)
  have hal : (l false ++ l true).length ≤ 256 := by
    rw [List.length_append]
    exact hgd.len
  obtain ⟨AL, hAL⟩ : ∃ AL, AL = l false ++ l true := ⟨_, rfl⟩
  rw [← hAL] at HOR hal
  have hphl : (amendC most 256 l k p q).hits.length ≤ 1000 := by
    have hgo : ∀ (e : EnR) (F : List OrdR) (f : Nat → Int), F.length ≤ 256 → (planR e F f).hits.length ≤ 1000 := fun e F f hF => by
      have h1 := meet_len e.c F e.q
      unfold planR noPlan
      split
      · exact Nat.zero_le _
      · split
        · exact Nat.zero_le _
        · split
          · split
            · exact Nat.zero_le _
            · show (meet e.c e.q F).length ≤ 1000; omega
          · show (meet e.c e.q F).length ≤ 1000; omega
    have hfl : ∀ s lim, (facO l s lim).length ≤ 256 := fun s lim => by
      have h1 := facO_len l s lim
      have h2 := hgd.len
      omega
    unfold amendC
    split
    · exact Nat.zero_le _
    · split
      · exact hgo _ _ _ (hfl _ _)
      · exact Nat.zero_le _
  obtain ⟨PL, hPL⟩ : ∃ PL, PL = amendC most 256 l k p q := ⟨_, rfl⟩
  rw [← hPL] at HAM HRA hphl
  have O2 := Lib.hid o2
  clear hBP hgd hl hAL hPL HLD o1 o2
  go_wp2_with fail
  refine (HOR.out _ (by repeat' (first | (with_reducible exact Only.refl _ _) | (with_reducible assumption) | (refine Only.of_none ?_; with_reducible assumption) | (with_reducible refine Only.drewN ?_ _) | (with_reducible refine Only.drew ?_) | (with_reducible refine Only.alloc ?_ _) | (with_reducible refine Only.setCell ?_ ?_ _) | (with_reducible refine Only.then0 ?_ (by with_reducible assumption)) | (with_reducible refine Only.thenN ?_ (by with_reducible assumption) ?_) | (with_reducible refine Only.trans ?_ (by with_reducible assumption)) | (refine .inl ?_; first | rfl | (simp; done) | (simp [Ar.blk]; done)) | (refine .inr ?_; first | omega | (simp; done) | (simp; omega) | exact Only.size (by with_reducible assumption) | (refine Nat.le_trans (Only.size (by with_reducible assumption)) ?_; simp; done))))).mono ?_
  intro en w3 hq
  obtain ⟨v3, rfl, hv3, o3⟩ := hq
  obtain ⟨a3, c3, rfl, _, hat3⟩ := OrdAt.of_own hv3
  have HT3 := Lib.hid hat3
  clear hv3 hat3
  go_wp2_with fail
  refine (HRA.out _ (by repeat' (first | (with_reducible exact Only.refl _ _) | (with_reducible assumption) | (refine Only.of_none ?_; with_reducible assumption) | (with_reducible refine Only.drewN ?_ _) | (with_reducible refine Only.drew ?_) | (with_reducible refine Only.alloc ?_ _) | (with_reducible refine Only.setCell ?_ ?_ _) | (with_reducible refine Only.then0 ?_ (by with_reducible assumption)) | (with_reducible refine Only.thenN ?_ (by with_reducible assumption) ?_) | (with_reducible refine Only.trans ?_ (by with_reducible assumption)) | (refine .inl ?_; first | rfl | (simp; done) | (simp [Ar.blk]; done)) | (refine .inr ?_; first | omega | (simp; done) | (simp; omega) | exact Only.size (by with_reducible assumption) | (refine Nat.le_trans (Only.size (by with_reducible assumption)) ?_; simp; done))))).mono ?_
  intro en w4 hq
  obtain ⟨v4, rfl, hv4, o4⟩ := hq
  unfold planV
  obtain ⟨a4, c4, rfl, _⟩ := own_slice hv4
  have B4 := Lib.hid (BoxP.new (P := PL) hv4)
  clear hv4
  go_wp2_with fail
  refine (HAM.out _ (by repeat' (first | (with_reducible exact Only.refl _ _) | (with_reducible assumption) | (refine Only.of_none ?_; with_reducible assumption) | (with_reducible refine Only.drewN ?_ _) | (with_reducible refine Only.drew ?_) | (with_reducible refine Only.alloc ?_ _) | (with_reducible refine Only.setCell ?_ ?_ _) | (with_reducible refine Only.then0 ?_ (by with_reducible assumption)) | (with_reducible refine Only.thenN ?_ (by with_reducible assumption) ?_) | (with_reducible refine Only.trans ?_ (by with_reducible assumption)) | (refine .inl ?_; first | rfl | (simp; done) | (simp [Ar.blk]; done)) | (refine .inr ?_; first | omega | (simp; done) | (simp; omega) | exact Only.size (by with_reducible assumption) | (refine Nat.le_trans (Only.size (by with_reducible assumption)) ?_; simp; done))))).mono ?_
  intro en w5 hq
  obtain ⟨v5, rfl, hv5, o5⟩ := hq
  unfold planV
  obtain ⟨a5, c5, rfl, _⟩ := own_slice hv5
  have B5 := Lib.hid (BoxP.new (P := PL) hv5)
  clear hv5
  go_wp2_with fail
  refine (HOR.out _ (by repeat' (first | (with_reducible exact Only.refl _ _) | (with_reducible assumption) | (refine Only.of_none ?_; with_reducible assumption) | (with_reducible refine Only.drewN ?_ _) | (with_reducible refine Only.drew ?_) | (with_reducible refine Only.alloc ?_ _) | (with_reducible refine Only.setCell ?_ ?_ _) | (with_reducible refine Only.then0 ?_ (by with_reducible assumption)) | (with_reducible refine Only.thenN ?_ (by with_reducible assumption) ?_) | (with_reducible refine Only.trans ?_ (by with_reducible assumption)) | (refine .inl ?_; first | rfl | (simp; done) | (simp [Ar.blk]; done)) | (refine .inr ?_; first | omega | (simp; done) | (simp; omega) | exact Only.size (by with_reducible assumption) | (refine Nat.le_trans (Only.size (by with_reducible assumption)) ?_; simp; done))))).mono ?_
  intro en w6 hq
  obtain ⟨v6, rfl, hv6, o6⟩ := hq
  obtain ⟨a6, c6, rfl, _, hat6⟩ := OrdAt.of_own hv6
  have HT6 := Lib.hid hat6
  clear hv6 hat6 HOR HRA HAM
  have b4 := B4.out.keep (show Only (fun _ => False) _ w6 from by repeat' (first | (with_reducible exact Only.refl _ _) | (with_reducible assumption) | (refine Only.of_none ?_; with_reducible assumption) | (with_reducible refine Only.drewN ?_ _) | (with_reducible refine Only.drew ?_) | (with_reducible refine Only.alloc ?_ _) | (with_reducible refine Only.setCell ?_ ?_ _) | (with_reducible refine Only.then0 ?_ (by with_reducible assumption)) | (with_reducible refine Only.thenN ?_ (by with_reducible assumption) ?_) | (with_reducible refine Only.trans ?_ (by with_reducible assumption)) | (refine .inl ?_; first | rfl | (simp; done) | (simp [Ar.blk]; done)) | (refine .inr ?_; first | omega | (simp; done) | (simp; omega) | exact Only.size (by with_reducible assumption) | (refine Nat.le_trans (Only.size (by with_reducible assumption)) ?_; simp; done))))
  have b5 := B5.out.keep (show Only (fun _ => False) _ w6 from by repeat' (first | (with_reducible exact Only.refl _ _) | (with_reducible assumption) | (refine Only.of_none ?_; with_reducible assumption) | (with_reducible refine Only.drewN ?_ _) | (with_reducible refine Only.drew ?_) | (with_reducible refine Only.alloc ?_ _) | (with_reducible refine Only.setCell ?_ ?_ _) | (with_reducible refine Only.then0 ?_ (by with_reducible assumption)) | (with_reducible refine Only.thenN ?_ (by with_reducible assumption) ?_) | (with_reducible refine Only.trans ?_ (by with_reducible assumption)) | (refine .inl ?_; first | rfl | (simp; done) | (simp [Ar.blk]; done)) | (refine .inr ?_; first | omega | (simp; done) | (simp; omega) | exact Only.size (by with_reducible assumption) | (refine Nat.le_trans (Only.size (by with_reducible assumption)) ?_; simp; done))))
  have HSP := Lib.hid (k_sameP w6 PL a5 a4 c5 c4 (by omega) (HitAt.of_slice b5.own) (HitAt.of_slice b4.own))
  unfold planV at HSP
  have e0 := b4.c0.cell
  have e1 := b4.c1.cell
  have e2 := b4.c2.cell
  have e3 := b4.c3.cell
  have ze := cell_lt e0
  have g0 := b5.c0.cell
  have g1 := b5.c1.cell
  have g2 := b5.c2.cell
  have g3 := b5.c3.cell
  have zg := cell_lt g0
  have O6 := Lib.hid (show Only (fun _ => False) w2 w6 from by repeat' (first | (with_reducible exact Only.refl _ _) | (with_reducible assumption) | (refine Only.of_none ?_; with_reducible assumption) | (with_reducible refine Only.drewN ?_ _) | (with_reducible refine Only.drew ?_) | (with_reducible refine Only.alloc ?_ _) | (with_reducible refine Only.setCell ?_ ?_ _) | (with_reducible refine Only.then0 ?_ (by with_reducible assumption)) | (with_reducible refine Only.thenN ?_ (by with_reducible assumption) ?_) | (with_reducible refine Only.trans ?_ (by with_reducible assumption)) | (refine .inl ?_; first | rfl | (simp; done) | (simp [Ar.blk]; done)) | (refine .inr ?_; first | omega | (simp; done) | (simp; omega) | exact Only.size (by with_reducible assumption) | (refine Nat.le_trans (Only.size (by with_reducible assumption)) ?_; simp; done))))
  have OX3 := Lib.hid (show Only (fun _ => False) w3 w6 from by repeat' (first | (with_reducible exact Only.refl _ _) | (with_reducible assumption) | (refine Only.of_none ?_; with_reducible assumption) | (with_reducible refine Only.drewN ?_ _) | (with_reducible refine Only.drew ?_) | (with_reducible refine Only.alloc ?_ _) | (with_reducible refine Only.setCell ?_ ?_ _) | (with_reducible refine Only.then0 ?_ (by with_reducible assumption)) | (with_reducible refine Only.thenN ?_ (by with_reducible assumption) ?_) | (with_reducible refine Only.trans ?_ (by with_reducible assumption)) | (refine .inl ?_; first | rfl | (simp; done) | (simp [Ar.blk]; done)) | (refine .inr ?_; first | omega | (simp; done) | (simp; omega) | exact Only.size (by with_reducible assumption) | (refine Nat.le_trans (Only.size (by with_reducible assumption)) ?_; simp; done))))
  have hee : (PL.err == PL.err) = true := by simp
  clear b4 b5 B4 B5 o3 o4 o5 o6
  go_wp2_with fail
  refine HSP.out.mono ?_
  rintro en w7 ⟨rfl, o7⟩
  have HSO := Lib.hid (k_same w7 AL a3 a6 c3 c6 (by omega) ((HT3.out.only OX3.out (fun _ _ => id)).only o7 (fun _ _ => id)) (HT6.out.only o7 (fun _ _ => id)))
  have O7 := Lib.hid o7
  clear o7 e0 e1 e2 e3 ze g0 g1 g2 g3 zg HSP
  go_wp2_with fail
  refine HSO.out.mono ?_
  rintro en w8 ⟨rfl, o8⟩
  go_wp2_with fail
  go_returns
  exact ⟨rfl, O2.out.trans (O6.out.trans (O7.out.trans o8))⟩

theorem planAmends_walk (w : World) (x0 : Int) (wf0 : (Lit.int .i64 x0).wf = true) (a : Option Addr) (len cap : Nat) (rows : List (List Value)) (hs : SliceIn w a len cap [.i .i64, .i .i64, .i .u8, .i .i64, .i .i64] rows) (hlen : len * 40 ≤ 140737488351232) (k : Int) (wfk : (Lit.int .i64 k).wf = true) (p : Int) (wfp : (Lit.int .i64 p).wf = true) (q : Int) (wfq : (Lit.int .i64 q).wf = true) :
    Calls Try.prog 14 #[.int .i64 x0, .slice a len cap, .int .i64 k, .int .i64 p, .int .i64 q] w fun e w' => e = .returned (.bool true) ∧ Below w.heap.size w w' := by
  by_cases h : x0 < 0 ∨ 128 < x0
  · exact (planAmends_no w x0 h a len cap k p q).mono fun _ _ ⟨he, ho⟩ => ⟨he, ho.below⟩
  · obtain ⟨most, rfl⟩ : ∃ k : Nat, x0 = k := ⟨x0.toNat, by omega⟩
    obtain ⟨L, hLl, hL, hwf⟩ := OrdIn.of_slice hs
    subst hLl
    exact (planAmends_yes w most (by omega) a cap L hL hwf (by omega) k p q wfk).mono fun _ _ ⟨he, ho⟩ => ⟨he, ho.below⟩
end Go.Proofs.Ytilngakgofjmpaa
