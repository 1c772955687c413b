/- SnapFolds: the walk. No condition. -/
import Derived.Test.YtiiflgihjnlmcaaFolds4
namespace Go.Proofs.Ytiiflgihjnlmcaa
set_option linter.unusedVariables false
set_option linter.unusedSimpArgs false
open Go.RowKit Go.Proofs.YtiiflgihjnlmcaaW.PrintWords Go.Proofs.YtiiflgihjnlmcaaW.PrintLast Go.Proofs.YtiiflgihjnlmcaaW.PrintMore Go.Proofs.Ytiiflgihjnlmcaa.PSnapFolds

theorem rc_check (x0 x1 x2 x3 x4 x5 : Int) (w : World) : Calls Try.prog 46 #[.agg #[.int .i64 x0, .int .i64 x1, .int .i64 x2, .int .i64 x3, .int .i64 x4, .int .i64 x5]] w fun e w' => e = .returned (.int .i64 (if snOk x0 x1 x2 x3 x4 x5 = true then 0 else 100)) ∧ Only (fun _ => False) w w' :=
  (tripwireref10_Check.calls 1 x0 x1 x2 x3 x4 x5 _ w (ref_check 1 (by decide) x0 x1 x2 x3 x4 x5)).mono fun _ _ ⟨h, b⟩ => ⟨h, Only.of_below b⟩
theorem rc_get (x0 x1 x2 x3 x4 x5 : Int) (f : Nat) (w : World) : Calls Try.prog 48 #[.agg #[.int .i64 x0, .int .i64 x1, .int .i64 x2, .int .i64 x3, .int .i64 x4, .int .i64 x5], .int .u8 (f : Int)] w fun e w' => e = .returned (.int .i64 (sev x0 x1 x2 x3 x4 x5 f)) ∧ Only (fun _ => False) w w' :=
  (tripwireref10_Get.calls x0 x1 x2 x3 x4 x5 f _ w (ref_get x0 x1 x2 x3 x4 x5 f)).mono fun _ _ ⟨h, b⟩ => ⟨h, Only.of_below b⟩
theorem rc_name (f : Nat) (w : World) : Calls Try.prog 50 #[.int .u8 (f : Int)] w fun e w' => e = .returned (.string (nameOf f)) ∧ Only (fun _ => False) w w' :=
  (tripwireref10_Name.calls f _ w (ref_name f)).mono fun _ _ ⟨h, b⟩ => ⟨h, by obtain ⟨n, rfl⟩ := b; exact (Only.refl _ _).drewN _⟩
theorem rc_diff (x0 x1 x2 x3 x4 x5 y0 y1 y2 y3 y4 y5 : Int) (w : World) : Calls Try.prog 52 #[.agg #[.int .i64 x0, .int .i64 x1, .int .i64 x2, .int .i64 x3, .int .i64 x4, .int .i64 x5], .agg #[.int .i64 y0, .int .i64 y1, .int .i64 y2, .int .i64 y3, .int .i64 y4, .int .i64 y5]] w fun e w' => e = .returned (.int .u16 (maskN (sev x0 x1 x2 x3 x4 x5) (sev y0 y1 y2 y3 y4 y5) 7 : Nat)) ∧ Only (fun _ => False) w w' :=
  (tripwireref10_Diff.calls 7 x0 x1 x2 x3 x4 x5 y0 y1 y2 y3 y4 y5 _ w (ref_diff 7 (by decide) x0 x1 x2 x3 x4 x5 y0 y1 y2 y3 y4 y5)).mono fun _ _ ⟨h, b⟩ => ⟨h, Only.of_below b⟩
theorem fold_form (s : Sn) (r : Option Sn) : ∃ (z0 z1 z2 z3 z4 z5 mm ee : Int), foldV s r = .tuple #[.agg #[.int .i64 z0, .int .i64 z1, .int .i64 z2, .int .i64 z3, .int .i64 z4, .int .i64 z5], .int .u16 mm, .int .i64 ee] ∧
    (match r with | some u => (u.a0, u.a1, u.a2, u.a3, u.a4, u.a5, ((s.mask u : Nat) : Int), (0 : Int)) | none => (0, 0, 0, 0, 0, 0, 0, 100)) = (z0, z1, z2, z3, z4, z5, mm, ee) := by
  cases r with
  | none => exact ⟨_, _, _, _, _, _, _, _, rfl, rfl⟩
  | some u => exact ⟨_, _, _, _, _, _, _, _, rfl, rfl⟩
theorem rc_fold (x0 x1 x2 x3 x4 x5 : Int) (a : Option Addr) (n cap : Nat) (xs : List (Int × Int × Int)) (hn : xs.length = n) (hk : ∀ x ∈ xs, FeedOk x) (hcap : n ≤ cap) (hN : n ≤ 67108863) (z0 z1 z2 z3 z4 z5 mm ee : Int)
    (hz : (match foldP ⟨x0, x1, x2, x3, x4, x5⟩ xs with | some u => (u.a0, u.a1, u.a2, u.a3, u.a4, u.a5, ((Sn.mask ⟨x0, x1, x2, x3, x4, x5⟩ u : Nat) : Int), (0 : Int)) | none => (0, 0, 0, 0, 0, 0, 0, 100)) = (z0, z1, z2, z3, z4, z5, mm, ee)) (w : World) (hx : FeedsAt w a xs) :
    Calls Try.prog 56 #[.agg #[.int .i64 x0, .int .i64 x1, .int .i64 x2, .int .i64 x3, .int .i64 x4, .int .i64 x5], .slice a n cap] w fun e w' => e = .returned (.tuple #[.agg #[.int .i64 z0, .int .i64 z1, .int .i64 z2, .int .i64 z3, .int .i64 z4, .int .i64 z5], .int .u16 mm, .int .i64 ee]) ∧ Only (fun _ => False) w w' := by
  have hl : (xs.map toS).length = n := by rw [List.length_map]; exact hn
  have hm : ((xs.map toS).map fun x : S158 => (x.f0, x.f1, x.f2)) = xs := by
    rw [List.map_map]; exact (List.map_congr_left (fun x _ => rfl)).trans (List.map_id _)
  have h := ref_fold ⟨x0, x1, x2, x3, x4, x5⟩ (xs.map toS) (by rw [hl]; omega) (fun x hx => by
    obtain ⟨y, hy, rfl⟩ := List.mem_map.1 hx
    exact hk y hy) (n + 8) (by rw [hl]; exact Nat.le_refl _)
  rw [hm] at h
  have h := h.trans (congrArg some hz)
  have hc := tripwireref10_Fold.calls (n + 8) x0 x1 x2 x3 x4 x5 a cap (xs.map toS) z0 z1 z2 z3 z4 z5 mm ee w (by rw [hl]; exact C_feeds hx hn (by omega)) (by rw [hl]; exact hcap) h
  rw [hl] at hc
  exact hc.mono fun _ _ ⟨h, b⟩ => ⟨h, Only.of_below b⟩

set_option maxHeartbeats 8000000 in
set_option maxRecDepth 100000 in
theorem snapFolds_yes (w : World) (x0 x1 x2 x3 x4 x5 y0 y1 y2 y3 y4 y5 : Int) (f : Nat) (hf : f ≤ 255) (a : Option Addr) (n cap : Nat) (xs : List (Int × Int × Int)) (hn : xs.length = n) (hk : ∀ x ∈ xs, FeedOk x) (hcap : n ≤ cap) (hx : FeedsAt w a xs) (hnx : NewsIn w a n cap xs) :
    Calls Try.prog 9 #[.agg #[.int .i64 x0, .int .i64 x1, .int .i64 x2, .int .i64 x3, .int .i64 x4, .int .i64 x5], .agg #[.int .i64 y0, .int .i64 y1, .int .i64 y2, .int .i64 y3, .int .i64 y4, .int .i64 y5], .int .u8 (f : Int), .slice a n cap] w fun e w' => e = .returned (.bool true) ∧ Only (fun _ => False) w w' := by
  have S4a := (Six.new w #[.int .i64 x0, .int .i64 x1, .int .i64 x2, .int .i64 x3, .int .i64 x4, .int .i64 x5] 70).only ((Only.refl (fun _ => False) _).alloc (.cells #[.int .i64 y0, .int .i64 y1, .int .i64 y2, .int .i64 y3, .int .i64 y4, .int .i64 y5] 70))
  have S5a := Six.new (w.alloc (.cells #[.int .i64 x0, .int .i64 x1, .int .i64 x2, .int .i64 x3, .int .i64 x4, .int .i64 x5] 70)) #[.int .i64 y0, .int .i64 y1, .int .i64 y2, .int .i64 y3, .int .i64 y4, .int .i64 y5] 70
  rw [World.size_alloc] at S5a
  have P0 := ((Only.refl (fun _ => False) w).alloc (.cells #[.int .i64 x0, .int .i64 x1, .int .i64 x2, .int .i64 x3, .int .i64 x4, .int .i64 x5] 70)).alloc (.cells #[.int .i64 y0, .int .i64 y1, .int .i64 y2, .int .i64 y3, .int .i64 y4, .int .i64 y5] 70)
  obtain ⟨fv, hfv⟩ : ∃ fv : Int, fv = (f : Int) := ⟨_, rfl⟩
  obtain ⟨gv, hgv⟩ : ∃ gv, gv = sev x0 x1 x2 x3 x4 x5 f := ⟨_, rfl⟩
  obtain ⟨nv, hnv⟩ : ∃ nv, nv = nameOf f := ⟨_, rfl⟩
  obtain ⟨dv, hdv⟩ : ∃ dv, dv = maskN (sev x0 x1 x2 x3 x4 x5) (sev y0 y1 y2 y3 y4 y5) 7 := ⟨_, rfl⟩
  obtain ⟨cv, hcv⟩ : ∃ cv : Int, cv = if snOk x0 x1 x2 x3 x4 x5 = true then 0 else 100 := ⟨_, rfl⟩
  obtain ⟨z0, z1, z2, z3, z4, z5, mm, ee, hF, hz⟩ := fold_form ⟨x0, x1, x2, x3, x4, x5⟩ (foldP ⟨x0, x1, x2, x3, x4, x5⟩ xs)
  have H1 := fun W => Lib.hid (s_check x0 x1 x2 x3 x4 x5 W)
  have H2 := fun W => Lib.hid (rc_check x0 x1 x2 x3 x4 x5 W)
  have H3 := fun W => Lib.hid (s_get x0 x1 x2 x3 x4 x5 f hf W)
  have H4 := fun W => Lib.hid (rc_get x0 x1 x2 x3 x4 x5 f W)
  have H5 := fun W => Lib.hid (s_name f hf W)
  have H6 := fun W => Lib.hid (rc_name f W)
  have H7 := fun W => Lib.hid (s_diff x0 x1 x2 x3 x4 x5 y0 y1 y2 y3 y4 y5 W)
  have H8 := fun W => Lib.hid (rc_diff x0 x1 x2 x3 x4 x5 y0 y1 y2 y3 y4 y5 W)
  simp only [← hcv] at H1 H2
  simp only [← hgv, ← hfv] at H3 H4
  simp only [← hnv, ← hfv] at H5 H6
  simp only [← hdv] at H7 H8
  rw [← hfv]
  clear hgv hnv hdv hcv hfv hf
  go_enter Try.func9, Try.ntmps9
  go_wp2_with fail
  refine (snap_works _).mono ?_
  rintro e w0 ⟨rfl, o0⟩
  have S4 := S4a.only o0
  have S5 := S5a.only o0
  have P := P0.trans o0
  clear S4a S5a P0 o0
  by_cases hbig : 67108863 < n
  · have t1 : decide (67108863 < n) = true := by simpa using hbig
    clear S4 S5
    go_wp2_with fail
    go_returns
    exact ⟨rfl, P⟩
  · have t1 : decide (67108863 < n) = false := by simpa using hbig
    have H9 := fun W h => Lib.hid (s_lent W a n cap xs hn h (by omega))
    have H10 := fun (g : Nat) W h => Lib.hid (fold_at ⟨x0, x1, x2, x3, x4, x5⟩ (some ⟨g, 0, none⟩) n (n + 2) xs hn hk (by omega) _ hF W h)
    have H11 := fun W g hb h => Lib.hid (s_whole W g n xs hb hn a cap hcap h (by omega))
    have H12 := fun W h => Lib.hid (rc_fold x0 x1 x2 x3 x4 x5 a n cap xs hn hk hcap (by omega) z0 z1 z2 z3 z4 z5 mm ee hz W h)
    have HX := Lib.hid hx
    have NX := Lib.hid hnx
    have HNN := Lib.hid hn
    clear hx hnx hn hF hz
    simp only [Sn.v] at H10
    have ac0 := S4 0 _ rfl; have ac1 := S4 1 _ rfl; have ac2 := S4 2 _ rfl; have ac3 := S4 3 _ rfl; have ac4 := S4 4 _ rfl; have ac5 := S4 5 _ rfl; have acz := cell_lt ac0
    go_wp2_with fail
    refine (H1 _).out.mono ?_
    rintro e w1 ⟨rfl, oo⟩
    clear ac0 ac1 ac2 ac3 ac4 ac5 acz
    have S4' := S4.only oo
    have S5' := S5.only oo
    have P' := P.trans oo
    clear S4 S5 P oo H1
    have S4 := S4'
    have S5 := S5'
    have P := P'
    clear S4' S5' P'
    have ac0 := S4 0 _ rfl; have ac1 := S4 1 _ rfl; have ac2 := S4 2 _ rfl; have ac3 := S4 3 _ rfl; have ac4 := S4 4 _ rfl; have ac5 := S4 5 _ rfl; have acz := cell_lt ac0
    go_wp2_with fail
    refine (H2 _).out.mono ?_
    rintro e w2 ⟨rfl, oo⟩
    clear ac0 ac1 ac2 ac3 ac4 ac5 acz
    have S4' := S4.only oo
    have S5' := S5.only oo
    have P' := P.trans oo
    clear S4 S5 P oo H2
    have S4 := S4'
    have S5 := S5'
    have P := P'
    clear S4' S5' P'
    have ac0 := S4 0 _ rfl; have ac1 := S4 1 _ rfl; have ac2 := S4 2 _ rfl; have ac3 := S4 3 _ rfl; have ac4 := S4 4 _ rfl; have ac5 := S4 5 _ rfl; have acz := cell_lt ac0
    go_wp2_with fail
    refine (H3 _).out.mono ?_
    rintro e w3 ⟨rfl, oo⟩
    clear ac0 ac1 ac2 ac3 ac4 ac5 acz
    have S4' := S4.only oo
    have S5' := S5.only oo
    have P' := P.trans oo
    clear S4 S5 P oo H3
    have S4 := S4'
    have S5 := S5'
    have P := P'
    clear S4' S5' P'
    have ac0 := S4 0 _ rfl; have ac1 := S4 1 _ rfl; have ac2 := S4 2 _ rfl; have ac3 := S4 3 _ rfl; have ac4 := S4 4 _ rfl; have ac5 := S4 5 _ rfl; have acz := cell_lt ac0
    go_wp2_with fail
    refine (H4 _).out.mono ?_
    rintro e w4 ⟨rfl, oo⟩
    clear ac0 ac1 ac2 ac3 ac4 ac5 acz
    have S4' := S4.only oo
    have S5' := S5.only oo
    have P' := P.trans oo
    clear S4 S5 P oo H4
    have S4 := S4'
    have S5 := S5'
    have P := P'
    clear S4' S5' P'
    go_wp2_with fail
    refine (H5 _).out.mono ?_
    rintro e w5 ⟨rfl, oo⟩
    have S4' := S4.only oo
    have S5' := S5.only oo
    have P' := P.trans oo
    clear S4 S5 P oo H5
    have S4 := S4'
    have S5 := S5'
    have P := P'
    clear S4' S5' P'
    go_wp2_with fail
    refine (H6 _).out.mono ?_
    rintro e w6 ⟨rfl, oo⟩
    have S4' := S4.only oo
    have S5' := S5.only oo
    have P' := P.trans oo
    clear S4 S5 P oo H6
    have S4 := S4'
    have S5 := S5'
    have P := P'
    clear S4' S5' P'
    have ac0 := S4 0 _ rfl; have ac1 := S4 1 _ rfl; have ac2 := S4 2 _ rfl; have ac3 := S4 3 _ rfl; have ac4 := S4 4 _ rfl; have ac5 := S4 5 _ rfl; have acz := cell_lt ac0
    have bc0 := S5 0 _ rfl; have bc1 := S5 1 _ rfl; have bc2 := S5 2 _ rfl; have bc3 := S5 3 _ rfl; have bc4 := S5 4 _ rfl; have bc5 := S5 5 _ rfl; have bcz := cell_lt bc0
    go_wp2_with fail
    refine (H7 _).out.mono ?_
    rintro e w7 ⟨rfl, oo⟩
    clear ac0 ac1 ac2 ac3 ac4 ac5 acz
    clear bc0 bc1 bc2 bc3 bc4 bc5 bcz
    have S4' := S4.only oo
    have S5' := S5.only oo
    have P' := P.trans oo
    clear S4 S5 P oo H7
    have S4 := S4'
    have S5 := S5'
    have P := P'
    clear S4' S5' P'
    have ac0 := S4 0 _ rfl; have ac1 := S4 1 _ rfl; have ac2 := S4 2 _ rfl; have ac3 := S4 3 _ rfl; have ac4 := S4 4 _ rfl; have ac5 := S4 5 _ rfl; have acz := cell_lt ac0
    have bc0 := S5 0 _ rfl; have bc1 := S5 1 _ rfl; have bc2 := S5 2 _ rfl; have bc3 := S5 3 _ rfl; have bc4 := S5 4 _ rfl; have bc5 := S5 5 _ rfl; have bcz := cell_lt bc0
    go_wp2_with fail
    refine (H8 _).out.mono ?_
    rintro e w8 ⟨rfl, oo⟩
    clear ac0 ac1 ac2 ac3 ac4 ac5 acz
    clear bc0 bc1 bc2 bc3 bc4 bc5 bcz
    have S4' := S4.only oo
    have S5' := S5.only oo
    have P' := P.trans oo
    clear S4 S5 P oo H8
    have S4 := S4'
    have S5 := S5'
    have P := P'
    clear S4' S5' P'
    clear S5
    go_wp2_with fail
    refine (H9 _ (NX.out.only P)).out.mono ?_
    intro e w9 h9
    obtain ⟨rfl, hblk, o9⟩ := h9
    have hg := (Array.getElem?_eq_some_iff.1 hblk).1
    have S4' := S4.only o9
    have P' := P.trans o9
    have HB := Lib.hid hblk
    clear S4 P o9 H9 hblk
    have ac0 := S4' 0 _ rfl; have ac1 := S4' 1 _ rfl; have ac2 := S4' 2 _ rfl; have ac3 := S4' 3 _ rfl; have ac4 := S4' 4 _ rfl; have ac5 := S4' 5 _ rfl; have acz := cell_lt ac0
    go_wp2_with fail
    refine (H10 _ _ (feeds_blk HB.out).1).out.mono ?_
    rintro e w10 ⟨rfl, o10⟩
    clear ac0 ac1 ac2 ac3 ac4 ac5 acz
    have S4 := S4'.only o10
    have P := P'.trans o10
    have hb2 := Lib.hid ((Below.heap_alloc w10 (.cells #[.int .i64 z0, .int .i64 z1, .int .i64 z2, .int .i64 z3, .int .i64 z4, .int .i64 z5] 70) _ (Nat.lt_of_lt_of_le hg o10.size)).trans ((o10.block _ hg id).trans HB.out))
    clear S4' P' H10 HB o10
    go_wp2_with fail
    refine (H11 _ _ hb2.out (HX.out.only (P.alloc _) (fun _ _ => id))).out.mono ?_
    rintro e w11 ⟨rfl, o11⟩
    have S19 := (Six.new w10 #[.int .i64 z0, .int .i64 z1, .int .i64 z2, .int .i64 z3, .int .i64 z4, .int .i64 z5] 70).only o11
    have S4' := (S4.only ((Only.refl _ w10).alloc (.cells #[.int .i64 z0, .int .i64 z1, .int .i64 z2, .int .i64 z3, .int .i64 z4, .int .i64 z5] 70))).only o11
    have P' := (P.alloc (.cells #[.int .i64 z0, .int .i64 z1, .int .i64 z2, .int .i64 z3, .int .i64 z4, .int .i64 z5] 70)).trans o11
    clear S4 P H11 hb2 o11 hg
    have ac0 := S4' 0 _ rfl; have ac1 := S4' 1 _ rfl; have ac2 := S4' 2 _ rfl; have ac3 := S4' 3 _ rfl; have ac4 := S4' 4 _ rfl; have ac5 := S4' 5 _ rfl; have acz := cell_lt ac0
    go_wp2_with fail
    refine (H12 _ (HX.out.only P' (fun _ _ => id))).out.mono ?_
    rintro e w12 ⟨rfl, o12⟩
    clear ac0 ac1 ac2 ac3 ac4 ac5 acz
    have S19' := S19.only o12
    have P := P'.trans o12
    clear S4' S19 P' H12 o12
    have cc0 := S19' 0 _ rfl; have cc1 := S19' 1 _ rfl; have cc2 := S19' 2 _ rfl; have cc3 := S19' 3 _ rfl; have cc4 := S19' 4 _ rfl; have cc5 := S19' 5 _ rfl; have ccz := cell_lt cc0
    go_wp2_with fail
    go_returns
    exact ⟨by simp, by repeat' (first | (with_reducible exact Only.refl _ _) | (with_reducible assumption) | (refine Only.of_none ?_; with_reducible assumption) | (with_reducible refine Only.drewN ?_ _) | (with_reducible refine Only.drew ?_) | (with_reducible refine Only.alloc ?_ _) | (with_reducible refine Only.setCell ?_ ?_ _) | (with_reducible refine Only.then0 ?_ (by with_reducible assumption)) | (with_reducible refine Only.thenN ?_ (by with_reducible assumption) ?_) | (with_reducible refine Only.trans ?_ (by with_reducible assumption)) | (refine .inl ?_; first | rfl | (simp; done) | (simp [Ar.blk]; done)) | (refine .inr ?_; first | omega | (simp; done) | (simp; omega) | exact Only.size (by with_reducible assumption) | (refine Nat.le_trans (Only.size (by with_reducible assumption)) ?_; simp; done)))⟩

theorem snapFolds_walk (w : World) (c0 : List Value) (f0 : Fits [.i .i64, .i .i64, .i .i64, .i .i64, .i .i64, .i .i64] c0) (c1 : List Value) (f1 : Fits [.i .i64, .i .i64, .i .i64, .i .i64, .i .i64, .i .i64] c1) (k2 : Int) (wf2 : (Lit.int .u8 k2).wf = true)
    (a : Option Addr) (len cap : Nat) (rows : List (List Value)) (hs : SliceIn w a len cap [.i .u8, .i .i64, .i .i64] rows) (hlen : len * 24 ≤ 140737488351232) :
    Calls Try.prog 9 #[.agg c0.toArray, .agg c1.toArray, .int .u8 k2, .slice a len cap] w fun e w' => e = .returned (.bool true) ∧ Below w.heap.size w w' := by
  obtain ⟨x0, _, rfl, _, f0⟩ := fits_i f0
  obtain ⟨x1, _, rfl, _, f0⟩ := fits_i f0
  obtain ⟨x2, _, rfl, _, f0⟩ := fits_i f0
  obtain ⟨x3, _, rfl, _, f0⟩ := fits_i f0
  obtain ⟨x4, _, rfl, _, f0⟩ := fits_i f0
  obtain ⟨x5, _, rfl, _, f0⟩ := fits_i f0
  obtain rfl := fits_nil f0
  obtain ⟨y0, _, rfl, _, f1⟩ := fits_i f1
  obtain ⟨y1, _, rfl, _, f1⟩ := fits_i f1
  obtain ⟨y2, _, rfl, _, f1⟩ := fits_i f1
  obtain ⟨y3, _, rfl, _, f1⟩ := fits_i f1
  obtain ⟨y4, _, rfl, _, f1⟩ := fits_i f1
  obtain ⟨y5, _, rfl, _, f1⟩ := fits_i f1
  obtain rfl := fits_nil f1
  have hb : 0 ≤ k2 ∧ k2 ≤ 255 := by
    simp [Lit.wf, IntKind.min, IntKind.max, IntKind.signed, IntKind.bits] at wf2
    omega
  obtain ⟨f, rfl⟩ : ∃ f : Nat, k2 = f := ⟨k2.toNat, by omega⟩
  have hcap : len ≤ cap := by
    rcases hs.2.2 with ⟨_, h1, h2⟩ | ⟨_, _, h, _⟩
    · omega
    · exact h
  obtain ⟨xs, h1, h2, h3, h4⟩ := feeds_in hs
  exact (snapFolds_yes w x0 x1 x2 x3 x4 x5 y0 y1 y2 y3 y4 y5 f (by omega) a len cap xs h1 h2 hcap h3 h4).mono fun _ _ ⟨he, ho⟩ => ⟨he, ho.below⟩
end Go.Proofs.Ytiiflgihjnlmcaa
