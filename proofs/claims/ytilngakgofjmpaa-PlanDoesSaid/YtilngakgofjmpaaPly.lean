/- PlanDoes: the walk. No condition. -/
import Derived.Test.YtilngakgofjmpaaPls
import Derived.Test.YtilngakgofjmpaaPlv
import Derived.Test.YtilngakgofjmpaaPlj
import Derived.Test.YtilngakgofjmpaaJE
namespace Go.Proofs.Ytilngakgofjmpaa
set_option linter.unusedVariables false
set_option linter.unusedSimpArgs false
open Go.RowKit Go.Shelf
open Od (OrdR)

theorem BoxP.only {B base : Nat} {v : Value} {P : PlanR} {A C : World} {S : Nat → Prop} (h : BoxP B base v P A) (o : Only S A C) (hB : ¬ S B) (hr : ∀ i, base ≤ i → ¬ S i) : BoxP B base v P C := ⟨h.c0.only o hB, h.c1.only o hB, h.c2.only o hB, h.c3.only o hB, ownsRow_apart h.own o (fun i hi => hr i (h.own.lt i hi).1)⟩
theorem planR_hits {e : EnR} {F : List OrdR} {f : Nat → Int} (hF : F.length ≤ 256) : (planR e F f).hits.length ≤ 1000 := by
  have h1 := meet_len e.c F e.q
  unfold planR noPlan
  split
  · exact Nat.zero_le _
  · split
    · exact Nat.zero_le _
    · split
      · split
        · exact Nat.zero_le _
        · show (meet e.c e.q F).length ≤ 1000; omega
      · show (meet e.c e.q F).length ≤ 1000; omega
theorem planC_hits {most room : Nat} {l : Bool → List OrdR} (g : Good most room l) (e : EnR) : (planC most room l e).hits.length ≤ 1000 := by
  unfold planC
  split
  · refine planR_hits ?_
    have h1 := facO_len l e.s e.p
    have h2 := g.len
    have h3 := g.small.1
    omega
  · exact Nat.zero_le _

set_option maxRecDepth 100000 in
set_option maxHeartbeats 4000000 in
theorem planDoes_no1 (w : World) (x0 x1 : Int) (h : x0 < 0) (a : Option Addr) (len cap : Nat) (e : EnR) :
    Calls Try.prog 13 #[.int .i64 x0, .int .i64 x1, .slice a len cap, enV e] w fun e w' => e = .returned (.bool true) ∧ Only (fun _ => False) w w' := by
  obtain ⟨ec, ek, es, ep, eq⟩ := e
  unfold enV
  simp only
  have t1 : decide (x0 < 0) = true := by simpa using h
  clear h
  go_enter Try.func13, Try.ntmps13
  go_wp2_with fail
  refine (pworks_walk _).mono ?_
  rintro en w1 ⟨rfl, o1⟩
  go_wp2_with fail
  go_returns
  exact ⟨rfl, by repeat' (first | (with_reducible exact Only.refl _ _) | (with_reducible assumption) | (refine Only.of_none ?_; with_reducible assumption) | (with_reducible refine Only.drewN ?_ _) | (with_reducible refine Only.drew ?_) | (with_reducible refine Only.alloc ?_ _) | (with_reducible refine Only.setCell ?_ ?_ _) | (with_reducible refine Only.then0 ?_ (by with_reducible assumption)) | (with_reducible refine Only.thenN ?_ (by with_reducible assumption) ?_) | (with_reducible refine Only.trans ?_ (by with_reducible assumption)) | (refine .inl ?_; first | rfl | (simp; done) | (simp [Ar.blk]; done)) | (refine .inr ?_; first | omega | (simp; done) | (simp; omega) | exact Only.size (by with_reducible assumption) | (refine Nat.le_trans (Only.size (by with_reducible assumption)) ?_; simp; done)))⟩

set_option maxRecDepth 100000 in
set_option maxHeartbeats 4000000 in
theorem planDoes_no2 (w : World) (x0 x1 : Int) (h0 : ¬ x0 < 0) (h : 256 < x0) (a : Option Addr) (len cap : Nat) (e : EnR) :
    Calls Try.prog 13 #[.int .i64 x0, .int .i64 x1, .slice a len cap, enV e] w fun e w' => e = .returned (.bool true) ∧ Only (fun _ => False) w w' := by
  obtain ⟨ec, ek, es, ep, eq⟩ := e
  unfold enV
  simp only
  have t1 : decide (x0 < 0) = false := by simpa using h0
  have t2 : decide (256 < x0) = true := by simpa using h
  clear h h0
  go_enter Try.func13, Try.ntmps13
  go_wp2_with fail
  refine (pworks_walk _).mono ?_
  rintro en w1 ⟨rfl, o1⟩
  go_wp2_with fail
  go_returns
  exact ⟨rfl, by repeat' (first | (with_reducible exact Only.refl _ _) | (with_reducible assumption) | (refine Only.of_none ?_; with_reducible assumption) | (with_reducible refine Only.drewN ?_ _) | (with_reducible refine Only.drew ?_) | (with_reducible refine Only.alloc ?_ _) | (with_reducible refine Only.setCell ?_ ?_ _) | (with_reducible refine Only.then0 ?_ (by with_reducible assumption)) | (with_reducible refine Only.thenN ?_ (by with_reducible assumption) ?_) | (with_reducible refine Only.trans ?_ (by with_reducible assumption)) | (refine .inl ?_; first | rfl | (simp; done) | (simp [Ar.blk]; done)) | (refine .inr ?_; first | omega | (simp; done) | (simp; omega) | exact Only.size (by with_reducible assumption) | (refine Nat.le_trans (Only.size (by with_reducible assumption)) ?_; simp; done)))⟩

set_option maxRecDepth 100000 in
set_option maxHeartbeats 4000000 in
theorem planDoes_no3 (w : World) (x0 x1 : Int) (h0 : ¬ x0 < 0) (h1 : ¬ 256 < x0) (h : x1 < 0) (a : Option Addr) (len cap : Nat) (e : EnR) :
    Calls Try.prog 13 #[.int .i64 x0, .int .i64 x1, .slice a len cap, enV e] w fun e w' => e = .returned (.bool true) ∧ Only (fun _ => False) w w' := by
  obtain ⟨ec, ek, es, ep, eq⟩ := e
  unfold enV
  simp only
  have t1 : decide (x0 < 0) = false := by simpa using h0
  have t2 : decide (256 < x0) = false := by simpa using h1
  have t3 : decide (x1 < 0) = true := by simpa using h
  clear h h0 h1
  go_enter Try.func13, Try.ntmps13
  go_wp2_with fail
  refine (pworks_walk _).mono ?_
  rintro en w1 ⟨rfl, o1⟩
  go_wp2_with fail
  go_returns
  exact ⟨rfl, by repeat' (first | (with_reducible exact Only.refl _ _) | (with_reducible assumption) | (refine Only.of_none ?_; with_reducible assumption) | (with_reducible refine Only.drewN ?_ _) | (with_reducible refine Only.drew ?_) | (with_reducible refine Only.alloc ?_ _) | (with_reducible refine Only.setCell ?_ ?_ _) | (with_reducible refine Only.then0 ?_ (by with_reducible assumption)) | (with_reducible refine Only.thenN ?_ (by with_reducible assumption) ?_) | (with_reducible refine Only.trans ?_ (by with_reducible assumption)) | (refine .inl ?_; first | rfl | (simp; done) | (simp [Ar.blk]; done)) | (refine .inr ?_; first | omega | (simp; done) | (simp; omega) | exact Only.size (by with_reducible assumption) | (refine Nat.le_trans (Only.size (by with_reducible assumption)) ?_; simp; done)))⟩

set_option maxRecDepth 100000 in
set_option maxHeartbeats 4000000 in
theorem planDoes_no4 (w : World) (x0 x1 : Int) (h0 : ¬ x0 < 0) (h1 : ¬ 256 < x0) (h2 : ¬ x1 < 0) (h : 128 < x1) (a : Option Addr) (len cap : Nat) (e : EnR) :
    Calls Try.prog 13 #[.int .i64 x0, .int .i64 x1, .slice a len cap, enV e] w fun e w' => e = .returned (.bool true) ∧ Only (fun _ => False) w w' := by
  obtain ⟨ec, ek, es, ep, eq⟩ := e
  unfold enV
  simp only
  have t1 : decide (x0 < 0) = false := by simpa using h0
  have t2 : decide (256 < x0) = false := by simpa using h1
  have t3 : decide (x1 < 0) = false := by simpa using h2
  have t4 : decide (128 < x1) = true := by simpa using h
  clear h h0 h1 h2
  go_enter Try.func13, Try.ntmps13
  go_wp2_with fail
  refine (pworks_walk _).mono ?_
  rintro en w1 ⟨rfl, o1⟩
  go_wp2_with fail
  go_returns
  exact ⟨rfl, by repeat' (first | (with_reducible exact Only.refl _ _) | (with_reducible assumption) | (refine Only.of_none ?_; with_reducible assumption) | (with_reducible refine Only.drewN ?_ _) | (with_reducible refine Only.drew ?_) | (with_reducible refine Only.alloc ?_ _) | (with_reducible refine Only.setCell ?_ ?_ _) | (with_reducible refine Only.then0 ?_ (by with_reducible assumption)) | (with_reducible refine Only.thenN ?_ (by with_reducible assumption) ?_) | (with_reducible refine Only.trans ?_ (by with_reducible assumption)) | (refine .inl ?_; first | rfl | (simp; done) | (simp [Ar.blk]; done)) | (refine .inr ?_; first | omega | (simp; done) | (simp; omega) | exact Only.size (by with_reducible assumption) | (refine Nat.le_trans (Only.size (by with_reducible assumption)) ?_; simp; done)))⟩

set_option maxRecDepth 100000 in
set_option maxHeartbeats 16000000 in
theorem planDoes_yes (w : World) (room most : Nat) (hr : room ≤ 256) (hm : most ≤ 128) (a : Option Addr) (cap : Nat) (L : List OrdR) (hL : OrdIn w a L) (hwf : ∀ o ∈ L, Wf o.i) (hl : L.length ≤ 1000000000000000) (e : EnR) :
    Calls Try.prog 13 #[.int .i64 (room : Nat), .int .i64 (most : Nat), .slice a L.length cap, enV e] w fun e w' => e = .returned (.bool true) ∧ Only (fun _ => False) w w' := by
  have HLD := Lib.hid fun W (o : Only (fun _ => False) w W) => k_laid W room most hr hm L a cap (hL.only o (fun _ _ => id)) hwf hl
  have t1 : decide ((room : Int) < 0) = false := by simp
  have t2 : decide (256 < room) = false := by simp; omega
  have t2' : decide ((256 : Int) < (room : Int)) = false := by simp; omega
  have t3 : decide ((most : Int) < 0) = false := by simp
  have t4 : decide (128 < most) = false := by simp; omega
  have t4' : decide ((128 : Int) < (most : Int)) = false := by simp; omega
  obtain ⟨len, hlen⟩ : ∃ len, len = L.length := ⟨_, rfl⟩
  rw [← hlen] at HLD ⊢
  have HE0 := Lib.hid (show ∀ (o : Nat) (v : Value), (#[.int .i64 e.c, .int .u8 e.k, .int .u8 e.s, .int .i64 e.p, .int .i64 e.q] : Array Value)[o]? = some v → Cell (w.alloc (.cells #[.int .i64 e.c, .int .u8 e.k, .int .u8 e.s, .int .i64 e.p, .int .i64 e.q] 111)) w.heap.size o v from fun o v hv => Cell.new hv)
  have HOE := Lib.hid (show Only (fun _ => False) w (w.alloc (.cells #[.int .i64 e.c, .int .u8 e.k, .int .u8 e.s, .int .i64 e.p, .int .i64 e.q] 111)) from (Only.refl _ _).alloc _)
  obtain ⟨pc, hOF, hRF, hPH⟩ : ∃ pc : (Bool → List OrdR) → PlanR, (∀ (W : World) (b : Nat) (T : Nat → Prop) (l : Bool → List OrdR), Bk W b T most room l → Calls Try.prog 53 #[.pointer (some ⟨b, 0, none⟩), enV e] W (PlanPost W (pc l))) ∧
      (∀ (W : World) (r : Nat) (vv : Bool → Value) (l : Bool → List OrdR), R6M W r vv most room l → Good most room l → Calls Try.prog 56 #[.pointer (some ⟨r, 0, none⟩), enV e] W (PlanPost W (pc l))) ∧
      (∀ l, Good most room l → (pc l).hits.length ≤ 1000) :=
    ⟨fun l => planC most room l e, fun W b T l h => k_Of h e, fun W r vv l h g => by show Calls _ _ _ _ (PlanPost W (planC most room l e)); rw [ofC_D g]; exact r_Of h g e, fun l g => planC_hits g e⟩
  have HOF := Lib.hid hOF
  have HRF := Lib.hid hRF
  have HPH := Lib.hid hPH
  clear hOF hRF hPH
  obtain ⟨ec, ek, es, ep, eq⟩ := e
  unfold enV at HOF HRF ⊢
  simp only at HE0 HOE HOF HRF ⊢
  clear hL hwf hl hlen hm hr
  go_enter Try.func13, Try.ntmps13
  go_wp2_with fail
  refine (pworks_walk _).mono ?_
  rintro en w1 ⟨rfl, o1⟩
  have O1 := HOE.out.trans o1
  have HO1 := Lib.hid O1
  have HE1 := Lib.hid fun W (o : Only (fun _ => False) w1 W) (j : Nat) (v : Value) (hv : (#[.int .i64 ec, .int .u8 ek, .int .u8 es, .int .i64 ep, .int .i64 eq] : Array Value)[j]? = some v) => ((HE0.out j v hv).only o1 id).only o id
  clear o1 HOE HE0
  go_wp2_with fail
  refine (HLD.out _ O1).mono ?_
  intro en w2 hq
  obtain ⟨b, r, T, T6, rfl, hBP⟩ := hq
  have hgd := hBP.bk.good
  have o2 := hBP.only
  obtain ⟨l, hl⟩ : ∃ l, l = laidL most room L := ⟨_, rfl⟩
  rw [← hl] at hBP hgd
  have HORD := Lib.hid fun W (o : Only (fun _ => False) w2 W) => k_allOrders (hBP.bk.only o (fun _ _ => id))
  have HCOF := Lib.hid fun W (o : Only (fun _ => False) w2 W) => HOF.out W b T l (hBP.bk.only o (fun _ _ => id))
  have HROF := Lib.hid fun W (o : Only (fun _ => False) w2 W) => (show Calls Try.prog 56 #[.pointer (some ⟨r, 0, none⟩), .agg #[.int .i64 ec, .int .u8 ek, .int .u8 es, .int .i64 ep, .int .i64 eq]] W (PlanPost W (pc l)) from by
    obtain ⟨vv, hM, _⟩ := hBP.r6.only o (fun _ _ => id)
    exact HRF.out W r vv l hM hgd)
  have hal : (l false ++ l true).length ≤ 256 := by
    rw [List.length_append]
    have h1 := hgd.len
    have h2 := hgd.small.1
    omega
  obtain ⟨AL, hAL⟩ : ∃ AL, AL = l false ++ l true := ⟨_, rfl⟩
  rw [← hAL] at HORD hal
  have hph := HPH.out l hgd
  obtain ⟨PL, hPL⟩ : ∃ PL, PL = pc l := ⟨_, rfl⟩
  rw [← hPL] at HCOF HROF hph
  have HO2 := Lib.hid o2
  clear hBP hgd hl hAL hPL HLD o2 HOF HRF HPH O1
  go_upto_region 8 with fail
  obtain ⟨W3, hW3⟩ : ∃ W3, w2.alloc (.cells #[.slice none 0 0, .slice none 0 0, .slice none 0 0, .slice none 0 0, .slice none 0 0, .slice none 0 0, .slice none 0 0, .slice none 0 0, .slice none 0 0, .slice none 0 0, .slice none 0 0] 81) = W3 := ⟨_, rfl⟩
  obtain ⟨bo, hbo⟩ : ∃ bo, w2.heap.size = bo := ⟨_, rfl⟩
  have o3 : Only (fun _ => False) w2 W3 := by rw [← hW3]; exact (Only.refl _ _).alloc _
  have hz3 : W3.heap.size = bo + 1 := by rw [← hW3, ← hbo]; simp
  have hc3 : ∀ o, o < 11 → Cell W3 bo o (.slice none 0 0) := fun o ho => by
    rw [← hW3, ← hbo]
    refine Cell.new ?_
    match o, ho with
    | 0, _ => rfl
    | 1, _ => rfl
    | 2, _ => rfl
    | 3, _ => rfl
    | 4, _ => rfl
    | 5, _ => rfl
    | 6, _ => rfl
    | 7, _ => rfl
    | 8, _ => rfl
    | 9, _ => rfl
    | 10, _ => rfl
    | n + 11, h => omega
  have HOW3 := Lib.hid (OwH.Ow.start hc3)
  have HBO := Lib.hid hbo
  try rw [hW3]
  try simp only [hbo]
  clear hW3 hbo hc3
  go_wp2_with fail
  refine (HORD.out _ (by repeat' (first | (with_reducible exact Only.refl _ _) | (with_reducible assumption) | (refine Only.of_none ?_; with_reducible assumption) | (with_reducible refine Only.drewN ?_ _) | (with_reducible refine Only.drew ?_) | (with_reducible refine Only.alloc ?_ _) | (with_reducible refine Only.setCell ?_ ?_ _) | (with_reducible refine Only.then0 ?_ (by with_reducible assumption)) | (with_reducible refine Only.thenN ?_ (by with_reducible assumption) ?_) | (with_reducible refine Only.trans ?_ (by with_reducible assumption)) | (refine .inl ?_; first | rfl | (simp; done) | (simp [Ar.blk]; done)) | (refine .inr ?_; first | omega | (simp; done) | (simp; omega) | exact Only.size (by with_reducible assumption) | (refine Nat.le_trans (Only.size (by with_reducible assumption)) ?_; simp; done))))).mono ?_
  intro en w4 hq
  obtain ⟨v4, rfl, hv4, o4⟩ := hq
  obtain ⟨a4, c4, rfl, _, hat4⟩ := OrdAt.of_own hv4
  have HV4 := Lib.hid hv4
  have hz4 := o4.size
  clear hv4 hat4
  have y0 := (HE1.out w4 (by have := HO2.out; repeat' (first | (with_reducible exact Only.refl _ _) | (with_reducible assumption) | (refine Only.of_none ?_; with_reducible assumption) | (with_reducible refine Only.drewN ?_ _) | (with_reducible refine Only.drew ?_) | (with_reducible refine Only.alloc ?_ _) | (with_reducible refine Only.setCell ?_ ?_ _) | (with_reducible refine Only.then0 ?_ (by with_reducible assumption)) | (with_reducible refine Only.thenN ?_ (by with_reducible assumption) ?_) | (with_reducible refine Only.trans ?_ (by with_reducible assumption)) | (refine .inl ?_; first | rfl | (simp; done) | (simp [Ar.blk]; done)) | (refine .inr ?_; first | omega | (simp; done) | (simp; omega) | exact Only.size (by with_reducible assumption) | (refine Nat.le_trans (Only.size (by with_reducible assumption)) ?_; simp; done)))) 0 _ rfl).cell
  have y1 := (HE1.out w4 (by have := HO2.out; repeat' (first | (with_reducible exact Only.refl _ _) | (with_reducible assumption) | (refine Only.of_none ?_; with_reducible assumption) | (with_reducible refine Only.drewN ?_ _) | (with_reducible refine Only.drew ?_) | (with_reducible refine Only.alloc ?_ _) | (with_reducible refine Only.setCell ?_ ?_ _) | (with_reducible refine Only.then0 ?_ (by with_reducible assumption)) | (with_reducible refine Only.thenN ?_ (by with_reducible assumption) ?_) | (with_reducible refine Only.trans ?_ (by with_reducible assumption)) | (refine .inl ?_; first | rfl | (simp; done) | (simp [Ar.blk]; done)) | (refine .inr ?_; first | omega | (simp; done) | (simp; omega) | exact Only.size (by with_reducible assumption) | (refine Nat.le_trans (Only.size (by with_reducible assumption)) ?_; simp; done)))) 1 _ rfl).cell
  have y2 := (HE1.out w4 (by have := HO2.out; repeat' (first | (with_reducible exact Only.refl _ _) | (with_reducible assumption) | (refine Only.of_none ?_; with_reducible assumption) | (with_reducible refine Only.drewN ?_ _) | (with_reducible refine Only.drew ?_) | (with_reducible refine Only.alloc ?_ _) | (with_reducible refine Only.setCell ?_ ?_ _) | (with_reducible refine Only.then0 ?_ (by with_reducible assumption)) | (with_reducible refine Only.thenN ?_ (by with_reducible assumption) ?_) | (with_reducible refine Only.trans ?_ (by with_reducible assumption)) | (refine .inl ?_; first | rfl | (simp; done) | (simp [Ar.blk]; done)) | (refine .inr ?_; first | omega | (simp; done) | (simp; omega) | exact Only.size (by with_reducible assumption) | (refine Nat.le_trans (Only.size (by with_reducible assumption)) ?_; simp; done)))) 2 _ rfl).cell
  have y3 := (HE1.out w4 (by have := HO2.out; repeat' (first | (with_reducible exact Only.refl _ _) | (with_reducible assumption) | (refine Only.of_none ?_; with_reducible assumption) | (with_reducible refine Only.drewN ?_ _) | (with_reducible refine Only.drew ?_) | (with_reducible refine Only.alloc ?_ _) | (with_reducible refine Only.setCell ?_ ?_ _) | (with_reducible refine Only.then0 ?_ (by with_reducible assumption)) | (with_reducible refine Only.thenN ?_ (by with_reducible assumption) ?_) | (with_reducible refine Only.trans ?_ (by with_reducible assumption)) | (refine .inl ?_; first | rfl | (simp; done) | (simp [Ar.blk]; done)) | (refine .inr ?_; first | omega | (simp; done) | (simp; omega) | exact Only.size (by with_reducible assumption) | (refine Nat.le_trans (Only.size (by with_reducible assumption)) ?_; simp; done)))) 3 _ rfl).cell
  have y4 := (HE1.out w4 (by have := HO2.out; repeat' (first | (with_reducible exact Only.refl _ _) | (with_reducible assumption) | (refine Only.of_none ?_; with_reducible assumption) | (with_reducible refine Only.drewN ?_ _) | (with_reducible refine Only.drew ?_) | (with_reducible refine Only.alloc ?_ _) | (with_reducible refine Only.setCell ?_ ?_ _) | (with_reducible refine Only.then0 ?_ (by with_reducible assumption)) | (with_reducible refine Only.thenN ?_ (by with_reducible assumption) ?_) | (with_reducible refine Only.trans ?_ (by with_reducible assumption)) | (refine .inl ?_; first | rfl | (simp; done) | (simp [Ar.blk]; done)) | (refine .inr ?_; first | omega | (simp; done) | (simp; omega) | exact Only.size (by with_reducible assumption) | (refine Nat.le_trans (Only.size (by with_reducible assumption)) ?_; simp; done)))) 4 _ rfl).cell
  have zy := cell_lt y0
  go_wp2_with fail
  refine (HROF.out _ (by repeat' (first | (with_reducible exact Only.refl _ _) | (with_reducible assumption) | (refine Only.of_none ?_; with_reducible assumption) | (with_reducible refine Only.drewN ?_ _) | (with_reducible refine Only.drew ?_) | (with_reducible refine Only.alloc ?_ _) | (with_reducible refine Only.setCell ?_ ?_ _) | (with_reducible refine Only.then0 ?_ (by with_reducible assumption)) | (with_reducible refine Only.thenN ?_ (by with_reducible assumption) ?_) | (with_reducible refine Only.trans ?_ (by with_reducible assumption)) | (refine .inl ?_; first | rfl | (simp; done) | (simp [Ar.blk]; done)) | (refine .inr ?_; first | omega | (simp; done) | (simp; omega) | exact Only.size (by with_reducible assumption) | (refine Nat.le_trans (Only.size (by with_reducible assumption)) ?_; simp; done))))).mono ?_
  intro en w5 hq
  obtain ⟨v5, rfl, hv5, o5⟩ := hq
  unfold planV
  obtain ⟨a5, c5, rfl, _⟩ := own_slice hv5
  have B5 := Lib.hid (BoxP.new (P := PL) hv5)
  have HB5 := Lib.hid (show w4.heap.size ≤ w5.heap.size from o5.size)
  clear hv5 y0 y1 y2 y3 y4 zy HROF
  obtain ⟨W6, hW6⟩ : ∃ W6, w5.alloc (.cells #[.slice a5 PL.hits.length c5, .int .i64 PL.traded, .int .i64 PL.rests, .int .i64 PL.gone] 104) = W6 := ⟨_, rfl⟩
  have O36 : Only (fun _ => False) W3 W6 := by rw [← hW6]; repeat' (first | (with_reducible exact Only.refl _ _) | (with_reducible assumption) | (refine Only.of_none ?_; with_reducible assumption) | (with_reducible refine Only.drewN ?_ _) | (with_reducible refine Only.drew ?_) | (with_reducible refine Only.alloc ?_ _) | (with_reducible refine Only.setCell ?_ ?_ _) | (with_reducible refine Only.then0 ?_ (by with_reducible assumption)) | (with_reducible refine Only.thenN ?_ (by with_reducible assumption) ?_) | (with_reducible refine Only.trans ?_ (by with_reducible assumption)) | (refine .inl ?_; first | rfl | (simp; done) | (simp [Ar.blk]; done)) | (refine .inr ?_; first | omega | (simp; done) | (simp; omega) | exact Only.size (by with_reducible assumption) | (refine Nat.le_trans (Only.size (by with_reducible assumption)) ?_; simp; done)))
  have O46 : Only (fun _ => False) w4 W6 := by rw [← hW6]; repeat' (first | (with_reducible exact Only.refl _ _) | (with_reducible assumption) | (refine Only.of_none ?_; with_reducible assumption) | (with_reducible refine Only.drewN ?_ _) | (with_reducible refine Only.drew ?_) | (with_reducible refine Only.alloc ?_ _) | (with_reducible refine Only.setCell ?_ ?_ _) | (with_reducible refine Only.then0 ?_ (by with_reducible assumption)) | (with_reducible refine Only.thenN ?_ (by with_reducible assumption) ?_) | (with_reducible refine Only.trans ?_ (by with_reducible assumption)) | (refine .inl ?_; first | rfl | (simp; done) | (simp [Ar.blk]; done)) | (refine .inr ?_; first | omega | (simp; done) | (simp; omega) | exact Only.size (by with_reducible assumption) | (refine Nat.le_trans (Only.size (by with_reducible assumption)) ?_; simp; done)))
  rw [hW6] at B5
  obtain ⟨b5, hb5⟩ : ∃ b5, w5.heap.size = b5 := ⟨_, rfl⟩
  rw [hb5] at B5
  have hb5o : bo < b5 := by have := HB5.out; omega
  have HOW6 := Lib.hid (HOW3.out.only O36 (fun _ _ => id))
  have HO26 := Lib.hid (o3.trans O36)
  have HO46 := Lib.hid O46
  have hbo6 : bo < W6.heap.size := by have := O36.size; omega
  clear o3 o4 o5 O36 O46 HOW3
  go_upto_region 10 with fail
  try rw [hW6]
  try simp only [hb5]
  clear hW6 hb5
  go_wp2_with fail
  go_loopw [16] (fun s16 wr => ∃ k : Nat, k ≤ 2 ∧ s16 = .int .i64 k ∧ (∃ TO, OwH.Ow wr bo k TO ∧ ∀ i, TO i → i = bo ∨ W6.heap.size ≤ i) ∧ Only (· = bo) W6 wr) (fun s16 _ => 2 - (intOf s16).toNat)
  case atStart => exact ⟨0, by omega, rfl, ⟨_, HOW6.out, fun i hi => .inl hi⟩, Only.refl _ _⟩
  case round =>
    obtain ⟨k, hk, rfl, ⟨TO, hOw, hTO⟩, ho⟩ := hrel
    have OW : Only (fun _ => False) w2 wr := HO26.out.trans' ho (fun i h1 h2 => by have := HBO.out; omega)
    have HOWr := Lib.hid OW
    have HO := Lib.hid ho
    have HK := Lib.hid (⟨hOw, hTO⟩ : _ ∧ _)
    have hTlt := hOw.lt
    by_cases hlt : k < 2
    · have u1 : decide (k < 2) = true := by simpa using hlt
      have u1' : decide ((k : Int) < 2) = true := by simp; omega
      have ww1 : IntKind.i64.wrap ((k : Int) + 1) = (k : Int) + 1 := by rw [IntKind.wrap_i64]; omega
      have OW1 := HO2.out.trans OW
      have y0 := (HE1.out wr OW1 0 _ rfl).cell
      have y1 := (HE1.out wr OW1 1 _ rfl).cell
      have y2 := (HE1.out wr OW1 2 _ rfl).cell
      have y3 := (HE1.out wr OW1 3 _ rfl).cell
      have y4 := (HE1.out wr OW1 4 _ rfl).cell
      have zy := cell_lt y0
      have HCALL := Lib.hid (HCOF.out wr OW)
      have B5r := Lib.hid (B5.out.only ho (by omega) (fun i hi => by omega))
      clear hOw hTO ho OW OW1
      go_wp2_with fail
      refine HCALL.out.mono ?_
      intro en w7 hq
      obtain ⟨v7, rfl, hv7, o7⟩ := hq
      unfold planV
      obtain ⟨a7, c7, rfl, _⟩ := own_slice hv7
      have B7 := Lib.hid (BoxP.new (P := PL) hv7)
      have oX : Only (fun _ => False) wr (w7.alloc (.cells #[.slice a7 PL.hits.length c7, .int .i64 PL.traded, .int .i64 PL.rests, .int .i64 PL.gone] 104)) := o7.alloc _
      have b5 := B5r.out.keep oX
      have HSP := Lib.hid (k_sameP _ PL a7 a5 c7 c5 (by omega) (HitAt.of_slice B7.out.own) (HitAt.of_slice b5.own))
      unfold planV at HSP
      have e0 := b5.c0.cell
      have e1 := b5.c1.cell
      have e2 := b5.c2.cell
      have e3 := b5.c3.cell
      have ze := cell_lt e0
      have hee : (PL.err != PL.err) = false := by simp
      have HOX := Lib.hid oX
      have hz7 := o7.size
      clear b5 o7 hv7 y0 y1 y2 y3 y4 zy HCALL
      go_wp2_with fail
      refine HSP.out.mono ?_
      rintro en w8 ⟨rfl, o8⟩
      have b7 := B7.out.keep o8
      have g0 := b7.c0.cell
      have zg := cell_lt g0
      have oW8 := HOX.out.trans o8
      have HPUT := Lib.hid (OwH.ow_put (HK.out.1.only oW8 (fun _ _ => id)) (by omega) (ownsRow_base b7.own (Nat.zero_le _)) (by omega) (fun g hg hT => by
        have h1 := (b7.own.lt g hg).1
        have h2 := hTlt g hT
        omega))
      have HO8 := Lib.hid oW8
      have hz8 := oW8.size
      clear b7 o8 oW8 oX e0 e1 e2 e3 ze HSP
      go_wp2_with fail
      refine HPUT.out.mono ?_
      intro en w9 hq
      obtain ⟨T9, rfl, h9, o9, g9⟩ := hq
      have H9 := Lib.hid (⟨h9, o9, g9⟩ : _ ∧ _ ∧ _)
      clear h9 o9 g9 HPUT g0 zg
      go_wp2_with fail
      go_roundw
      case rel =>
        obtain ⟨h9, o9, g9⟩ := H9.out
        obtain ⟨hOw, hTO⟩ := HK.out
        have hzz := HO.out.size
        refine ⟨k + 1, by omega, by go_num, ⟨T9, h9, fun i hi => ?_⟩, ?_⟩
        · rcases g9 i hi with h | h | h
          · exact hTO i h
          · have := (B7.out.own.lt i h).1
            exact .inr (by omega)
          · exact .inr (by omega)
        · refine (HO.out.trans (Only.of_none HO8.out)).trans' o9 (fun i h1 h2 => ?_)
          rcases hTO i h2 with h | h
          · exact h
          · omega
      case measure => simp [intOf]; omega
    · have u1 : decide (k < 2) = false := by simpa using hlt
      have u1' : decide ((k : Int) < 2) = false := by simp; omega
      have HVr := Lib.hid (ownsRow_apart (ownsRow_apart HV4.out HO46.out (fun _ _ => id)) ho (fun i hi e => by have := (HV4.out.lt i hi).1; omega))
      have HCALL := Lib.hid (HORD.out wr OW)
      clear hOw hTO ho OW
      go_wp2_with fail
      refine HCALL.out.mono ?_
      intro en w7 hq
      obtain ⟨v7, rfl, hv7, o7⟩ := hq
      obtain ⟨a7, c7, rfl, _, hat7⟩ := OrdAt.of_own hv7
      have HSO := Lib.hid (k_same w7 AL a4 a7 c4 c7 (by omega) (by
        obtain ⟨va', ca', hv', _, ho'⟩ := OrdAt.of_own (ownsRow_apart HVr.out o7 (fun _ _ => id))
        injection hv' with e1 _ _
        rw [e1]
        exact ho') hat7)
      have HO7 := Lib.hid o7
      clear hv7 hat7 o7 HCALL
      go_wp2_with fail
      refine HSO.out.mono ?_
      rintro en w8 ⟨rfl, o8⟩
      have o78 := HO7.out.trans o8
      have HOWN := Lib.hid (OwH.ow_own (HK.out.1.only o78 (fun _ _ => id)) (by omega))
      have HO78 := Lib.hid o78
      clear o8 o78 HSO
      go_wp2_with fail
      refine HOWN.out.mono ?_
      rintro en w9 ⟨rfl, o9⟩
      have hfin : Only (fun _ => False) w w9 := by
        refine (((HO1.out.trans HO2.out).trans HOWr.out).trans HO78.out).trans' o9 (fun i h1 h2 => ?_)
        have a1 := HO1.out.size
        have a2 := HO2.out.size
        have a3 := HO26.out.size
        have a4 := HBO.out
        rcases HK.out.2 i h2 with h | h <;> omega
      have HFIN := Lib.hid hfin
      clear hfin o9 HOWN
      go_wp2_with fail
      go_returns
      exact ⟨rfl, HFIN.out⟩

theorem planDoes_walk (w : World) (x0 : Int) (wf0 : (Lit.int .i64 x0).wf = true) (x1 : Int) (wf1 : (Lit.int .i64 x1).wf = true) (a : Option Addr) (len cap : Nat) (rows : List (List Value)) (hs : SliceIn w a len cap [.i .i64, .i .i64, .i .u8, .i .i64, .i .i64] rows) (hlen : len * 40 ≤ 140737488351232) (cs : List Value) (hf : Fits [.i .i64, .i .u8, .i .u8, .i .i64, .i .i64] cs) :
    Calls Try.prog 13 #[.int .i64 x0, .int .i64 x1, .slice a len cap, .agg cs.toArray] w fun e w' => e = .returned (.bool true) ∧ Below w.heap.size w w' := by
  obtain ⟨ec, _, rfl, _, hf⟩ := fits_i hf
  obtain ⟨ek, _, rfl, _, hf⟩ := fits_i hf
  obtain ⟨es, _, rfl, _, hf⟩ := fits_i hf
  obtain ⟨ep, _, rfl, _, hf⟩ := fits_i hf
  obtain ⟨eq, _, rfl, _, hf⟩ := fits_i hf
  obtain rfl := fits_nil hf
  refine Calls.mono (R := fun e w' => e = .returned (.bool true) ∧ Only (fun _ => False) w w') ?_ (fun e w' h => ⟨h.1, h.2.below⟩)
  by_cases h0 : x0 < 0
  · exact planDoes_no1 w x0 x1 h0 a len cap ⟨ec, ek, es, ep, eq⟩
  · by_cases h1 : 256 < x0
    · exact planDoes_no2 w x0 x1 h0 h1 a len cap ⟨ec, ek, es, ep, eq⟩
    · by_cases h2 : x1 < 0
      · exact planDoes_no3 w x0 x1 h0 h1 h2 a len cap ⟨ec, ek, es, ep, eq⟩
      · by_cases h3 : 128 < x1
        · exact planDoes_no4 w x0 x1 h0 h1 h2 h3 a len cap ⟨ec, ek, es, ep, eq⟩
        · obtain ⟨room, rfl⟩ : ∃ k : Nat, x0 = k := ⟨x0.toNat, by omega⟩
          obtain ⟨most, rfl⟩ : ∃ k : Nat, x1 = k := ⟨x1.toNat, by omega⟩
          obtain ⟨L, hLl, hL, hwf⟩ := OrdIn.of_slice hs
          subst hLl
          exact planDoes_yes w room most (by omega) (by omega) a cap L hL hwf (by omega) ⟨ec, ek, es, ep, eq⟩
end Go.Proofs.Ytilngakgofjmpaa
