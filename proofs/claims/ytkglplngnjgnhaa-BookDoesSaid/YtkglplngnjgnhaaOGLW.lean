/- What comes out is its owner's: lists of levels, the walk. Conditions: at most 2000000000000 lists of one's own, apart, of at most 2^36 feeds each. -/
import Derived.Test.YtkglplngnjgnhaaOGLF
namespace Go.Proofs.Ytkglplngnjgnhaa.OwL
open Go.RowKit Go.Proofs.Ytkglplngnjgnhaa
set_option linter.unusedVariables false
set_option linter.unusedSimpArgs false

set_option maxHeartbeats 8000000 in
set_option maxRecDepth 100000 in
theorem s_own (w : World) (gl m mc : Nat) (hv : Nat → Value) (n : Nat → Nat) (hI : OwnIn w gl m hv n) (hmc : m ≤ mc) (h0 : O1 w w gl m hv n 0 0) :
    Calls Try.prog 84 #[.slice (some ⟨gl, 0, none⟩) m mc] w fun e w' => e = .returned (.bool true) ∧ Only (HB m hv) w w' := by
  obtain ⟨i3, hi3, hz3, hs3, hb3⟩ := info_ofO infoA_EltL
  obtain ⟨i4, hi4, hz4, hs4, hb4⟩ := info_ofO infoA_EltsL
  have hm := hI.hm
  have hgl := hI.hg
  have HI := Lib.hid hI
  have H0 := Lib.hid h0
  have hform : ∀ r, r < m → ∃ a cap, hv r = .slice a (n r) cap ∧ n r ≤ cap ∧ (0 < n r → ∃ g, a = some ⟨g, 0, none⟩) := fun r hr => by
    obtain ⟨xs, h1, _, _⟩ := h0.own r hr
    obtain ⟨a, cap, e, hc⟩ := ownS h1
    refine ⟨a, cap, e, hc, fun hp => ?_⟩
    obtain ⟨g, cap', e', _⟩ := ownC h1 hp
    rw [e] at e'
    injection e' with e1 _ _
    exact ⟨g, e1⟩
  have HFORM := Lib.hid hform
  clear hI h0 hform
  go_enter Try.func84, Try.ntmps84
  go_wp2_with fail
  go_loopw [3] (fun s3 wr => ∃ i : Nat, i ≤ m ∧ s3 = .int .i64 i ∧ O1 w wr gl m hv n i 0) (fun s3 _ => m - (intOf s3).toNat)
  case atStart => exact ⟨0, by omega, rfl, H0.out⟩
  case round =>
    clear H0
    obtain ⟨i, hi, rfl, hO⟩ := hrel
    obtain ⟨wo, hwo⟩ : ∃ wo : World, wo = wr := ⟨_, rfl⟩
    subst hwo
    have HO := Lib.hid hO
    by_cases hlt : i < m
    · have ti : decide (i < m) = true := by simpa using hlt
      have ii : (0 : Int) ≤ (i : Int) ∧ (i : Int) < (m : Int) := by omega
      obtain ⟨ni, hni⟩ : ∃ ni, n i = ni := ⟨_, rfl⟩
      have hbn := HI.out.bn i hlt
      rw [hni] at hbn
      have HNI := Lib.hid hni
      have w1 : IntKind.i64.wrap ((i : Int) + 1) = (i : Int) + 1 := by rw [IntKind.wrap_i64]; omega
      have w2 : IntKind.i64.wrap ((i : Int) * 1000) = (i : Int) * 1000 := by rw [IntKind.wrap_i64]; omega
      clear hO hni
      go_wp2_with fail
      go_loopw [4] (fun s4 wr => ∃ k : Nat, k ≤ ni ∧ s4 = .int .i64 k ∧ O1 w wr gl m hv n i k) (fun s4 _ => ni - (intOf s4).toNat)
      case atStart => exact ⟨0, by omega, rfl, HO.out⟩
      case round =>
        clear HO
        obtain ⟨k, hk, rfl, hO⟩ := hrel
        have hzg := Nat.lt_of_lt_of_le hgl hO.only.size
        obtain ⟨xs, ho1, _, _⟩ := hO.own i hlt
        obtain ⟨a, cap, hvv, hcap⟩ := ownS ho1
        have ch := hO.heads i hlt
        rw [hvv, HNI.out] at ch
        rw [HNI.out] at hcap
        have HO := Lib.hid hO
        by_cases hlk : k < ni
        · have tk : decide (k < ni) = true := by simpa using hlk
          obtain ⟨g, cap', e, _, hg, hne, hcells⟩ := hO.spot HI.out hlt (by rw [HNI.out]; exact hlk)
          rw [hvv] at e
          obtain ⟨rfl, rfl⟩ : a = some ⟨g, 0, none⟩ ∧ cap = cap' := by injection e with e1 e2 e3; exact ⟨e1, e3⟩
          obtain ⟨u0, c0, f0⟩ := hcells 0 (by decide)
          obtain ⟨u1, c1, f1⟩ := hcells 1 (by decide)
          obtain ⟨u2, c2, f2⟩ := hcells 2 (by decide)
          rw [Nat.add_zero] at c0 f0
          have ik : (0 : Int) ≤ (k : Int) ∧ (k : Int) < (ni : Int) := by omega
          have w3 : IntKind.i64.wrap ((k : Int) + 1) = (k : Int) + 1 := by rw [IntKind.wrap_i64]; omega
          have w4 : IntKind.i64.wrap ((i : Int) * 1000 + (k : Int)) = (i : Int) * 1000 + (k : Int) := by rw [IntKind.wrap_i64]; omega
          have HS := Lib.hid (hO.set HI.out hlt (by rw [HNI.out]; exact hlk) (show (hv i).ownBlock = some g by rw [hvv]; rfl))
          clear hO ho1 hvv e hcells HO
          go_wp2_with fail
          go_roundw
          case rel => exact ⟨k + 1, by omega, by go_num, HS.out⟩
          case measure => simp [intOf]; omega
        · have tk : decide (k < ni) = false := by simpa using hlk
          have hkn : k = ni := by omega
          have HN := Lib.hid (O1.next HI.out (by rw [HNI.out, ← hkn]; exact hO))
          clear hO ho1 hvv HO hkn
          go_wp2_with fail
          go_roundw
          case rel => exact ⟨i + 1, by omega, by go_num, HN.out⟩
          case measure => simp [intOf]; omega
    · have ti : decide (i < m) = false := by simpa using hlt
      have him : i = m := by omega
      have H2 := Lib.hid (O2.start HI.out (him ▸ hO))
      clear hO HO hlt him
      go_wp2_with fail
      go_loopw [5, 6] (fun s5 s6 wr => ∃ (i : Nat) (lv : Value) (lh : Nat → Value), i ≤ m ∧ s5 = lv ∧ s6 = .int .i64 i ∧ O2 w wr gl m hv n i lv lh) (fun _ s6 _ => m - (intOf s6).toNat)
      case atStart => exact ⟨0, _, _, by omega, rfl, rfl, H2.out⟩
      case round =>
        clear H2 ti hi
        obtain ⟨i, lv, lh, hi, e5, rfl, hO⟩ := hrel
        replace e5 := e5.symm
        subst e5
        obtain ⟨wo, hwo⟩ : ∃ wo : World, wo = wr := ⟨_, rfl⟩
        subst hwo
        have HO := Lib.hid hO
        by_cases hlt : i < m
        · have ti : decide (i < m) = true := by simpa using hlt
          have ii : (0 : Int) ≤ (i : Int) ∧ (i : Int) < (m : Int) := by omega
          obtain ⟨ni, hni⟩ : ∃ ni, n i = ni := ⟨_, rfl⟩
          have hbn := HI.out.bn i hlt
          rw [hni] at hbn
          have HNI := Lib.hid hni
          have w1 : IntKind.i64.wrap ((i : Int) + 1) = (i : Int) + 1 := by rw [IntKind.wrap_i64]; omega
          have w2 : IntKind.i64.wrap (-1 - (i : Int)) = -1 - (i : Int) := by rw [IntKind.wrap_i64]; omega
          have w3 : IntKind.i64.wrap ((-1 - (i : Int)) * 1000) = (-1 - (i : Int)) * 1000 := by rw [IntKind.wrap_i64]; omega
          have ch := hO.heads i hlt
          obtain ⟨a, cap, hvv, hcap⟩ := ownS (hO.own i (Nat.le_refl _) hlt)
          rw [hvv, hni] at ch
          have H3 := Lib.hid (O3.start (hO.own i (Nat.le_refl _) hlt))
          have HLT := Lib.hid (fun g (hg : (hv i).ownBlock = some g) => Nat.lt_of_lt_of_le (HI.out.hs i hlt g hg).1 hO.only.size)
          have HVV := Lib.hid hvv
          have hzg := Nat.lt_of_lt_of_le hgl hO.only.size
          have HWO := Lib.hid hO.only.size
          clear hO hni hvv
          go_wp2_with fail
          clear ch
          go_loopw [7, 8] (fun s7 s8 wr => ∃ (k : Nat) (x : Value), k ≤ 16 ∧ s7 = x ∧ s8 = .int .i64 k ∧ O3 wo wr (hv i) (n i) i k x) (fun _ s8 _ => 16 - (intOf s8).toNat)
          case atStart => exact ⟨0, _, by omega, by rw [HVV.out, HNI.out], rfl, H3.out⟩
          case round =>
            clear H3
            obtain ⟨k, x, hk, e7, rfl, hO3⟩ := hrel
            replace e7 := e7.symm
            subst e7
            have H3 := Lib.hid hO3
            by_cases hlk : k < 16
            · have tk : decide (k < 16) = true := by simpa using hlk
              have tk' : decide ((k : Int) < 16) = true := by simp; omega
              have w4 : IntKind.i64.wrap ((k : Int) + 1) = (k : Int) + 1 := by rw [IntKind.wrap_i64]; omega
              have w5 : IntKind.i64.wrap ((-1 - (i : Int)) * 1000 - (k : Int)) = (-1 - (i : Int)) * 1000 - (k : Int) := by rw [IntKind.wrap_i64]; omega
              have hxo := hO3.xo
              rw [HNI.out] at hxo
              have HX := Lib.hid hxo
              have HOP := Lib.hid (show ∀ u ∈ [Value.int .i64 0, .int .i64 0, .int .i64 ((-1 - (i : Int)) * 1000 - (k : Int))], u.oneCell' = true from fun u hu => by
                simp only [List.mem_cons, List.mem_nil_iff, or_false] at hu
                rcases hu with rfl | rfl | rfl <;> rfl)
              clear hO3 hxo
              go_wp2_with (at_builtin; with_reducible refine wpList_append_keep rfl (.tmp 53) (.tmp 60) 90 rfl 0 94 i3 (.agg #[.int .i64 0, .int .i64 0, .int .i64 0]) 3 24 Try.underlying90 hi3 hz3 hs3 hb3 rfl (by decide) x (ni + k) _ rfl (HX.out.alloc _) ⟨_, 0, none⟩ 1 1 [.int .i64 0, .int .i64 0, .int .i64 ((-1 - (i : Int)) * 1000 - (k : Int))] rfl rfl (cells_newO _ _ _) HOP.out (by unfold maxLen; omega) (by omega) (Nat.zero_le _) ?_; intro x2 w6 hown2 hk2; have H4 := Lib.hid (O3.step H3.out HLT.out _ (by rw [HNI.out]; exact hown2) hk2); clear hown2 hk2)
              go_roundw
              case rel => exact ⟨k + 1, x2, by omega, rfl, by go_num, H4.out⟩
              case measure => simp [intOf]; omega
            · have tk : decide (k < 16) = false := by simpa using hlk
              have tk' : decide ((k : Int) < 16) = false := by simp; omega
              obtain rfl : k = 16 := by omega
              obtain ⟨xa, xc, hxx, _⟩ := ownS hO3.xo
              subst hxx
              have hlo := own_keep HO.out.ll (W := wr) fun g hg => hO3.only.block g (HO.out.ll.lt g hg).2 (fun e => by
                have h1 := (HI.out.hs i hlt g e).1
                have h2 := (HO.out.ll.lt g hg).1
                omega)
              have HL := Lib.hid hlo
              have HOP := Lib.hid (show ∀ u ∈ [Value.slice xa (n i + 16) xc], u.oneCell' = true from fun u hu => by
                rcases List.mem_cons.1 hu with rfl | hu
                · rfl
                · cases hu)
              have hbase : w.heap.size ≤ wr.heap.size := Nat.le_trans HO.out.only.size hO3.only.size
              have HBS := Lib.hid (show w.heap.size ≤ (wr.alloc (.cells #[.slice xa (n i + 16) xc] 90)).heap.size by simp; omega)
              clear hO3 hlo hbase
              go_wp2_with (at_builtin; with_reducible refine wpList_append_own_at _ rfl (.tmp 62) (.tmp 64) 73 rfl w.heap.size 90 i4 (.slice none 0 0) 1 24 Try.underlying73 hi4 hz4 hs4 hb4 rfl (by decide) lv i _ rfl (HL.out.alloc _) ⟨_, 0, none⟩ 1 1 [.slice xa (n i + 16) xc] rfl rfl (cells_newO _ _ _) HOP.out (by unfold maxLen; omega) (by omega) HBS.out ?_; intro l2 w6 hown2 hgr2 hnil2 hat2; clear hnil2; have H4 := Lib.hid (O2.next HI.out HO.out hlt H3.out _ hown2 hgr2 hat2); clear hown2 hgr2 hat2)
              go_roundw
              case rel => exact ⟨i + 1, l2, _, by omega, rfl, by go_num, H4.out⟩
              case measure => simp [intOf]; omega
        · have ti : decide (i < m) = false := by simpa using hlt
          obtain rfl : m = i := by omega
          clear hO
          go_wp2_with fail
          have HO := Lib.hid HO.out
          obtain ⟨la, lc, hll, hlc⟩ := ownS HO.out.ll
          have HLL := Lib.hid hll
          subst hll
          go_loop [9] (fun s9 => ∃ i : Nat, i ≤ m ∧ s9 = .int .i64 i) (fun s9 => m - (intOf s9).toNat)
          case atStart => exact ⟨0, by omega, rfl⟩
          case round =>
            obtain ⟨i, hi, rfl⟩ := hrel
            by_cases hlt : i < m
            · have ti : decide (i < m) = true := by simpa using hlt
              have ii : (0 : Int) ≤ (i : Int) ∧ (i : Int) < (m : Int) := by omega
              obtain ⟨ni, hni⟩ : ∃ ni, n i = ni := ⟨_, rfl⟩
              have hbn := HI.out.bn i hlt
              rw [hni] at hbn
              have w1 : IntKind.i64.wrap ((i : Int) + 1) = (i : Int) + 1 := by rw [IntKind.wrap_i64]; omega
              have w2 : IntKind.i64.wrap ((i : Int) * 1000) = (i : Int) * 1000 := by rw [IntKind.wrap_i64]; omega
              have w3 : IntKind.i64.wrap (-1 - (i : Int)) = -1 - (i : Int) := by rw [IntKind.wrap_i64]; omega
              have w4 : IntKind.i64.wrap ((-1 - (i : Int)) * 1000) = (-1 - (i : Int)) * 1000 := by rw [IntKind.wrap_i64]; omega
              obtain ⟨a, cap, hvv, hcap, hag⟩ := HFORM.out i hlt
              have ch := HO.out.heads i hlt
              rw [hvv, hni] at ch
              rw [hni] at hcap hag
              have hrd := HO.out.rd i hlt
              rw [hvv, hni] at hrd
              obtain ⟨gL, lc', eL, _, _, hgL, hcL⟩ := ownC HO.out.ll (by omega)
              obtain ⟨rfl, rfl⟩ : la = some ⟨gL, 0, none⟩ ∧ lc = lc' := by injection eL with e1 e2 e3; exact ⟨e1, e3⟩
              have hlo := HO.out.lo i hlt
              rw [hni] at hlo
              obtain ⟨g2, c2, e2, hc2, _, hg2, hcx⟩ := ownC hlo (by omega)
              have cl := (hcL i (lh i) (by rw [List.getElem?_map, List.getElem?_range hlt]; rfl)).cell
              rw [e2] at cl
              have HRD := Lib.hid hrd
              have HCX := Lib.hid hcx
              have HAG := Lib.hid hag
              have HNI := Lib.hid hni
              clear hvv hrd hlo hcx hcL hag hni eL e2
              go_wp2_with fail
              go_loop [11] (fun s11 => ∃ k : Nat, k ≤ ni ∧ s11 = .int .i64 k) (fun s11 => ni - (intOf s11).toNat)
              case atStart => exact ⟨0, by omega, rfl⟩
              case round =>
                obtain ⟨k, hk, rfl⟩ := hrel
                by_cases hlk : k < ni
                · have tk : decide (k < ni) = true := by simpa using hlk
                  obtain ⟨g, rfl⟩ := HAG.out (by omega)
                  have ik : (0 : Int) ≤ (k : Int) ∧ (k : Int) < (ni : Int) := by omega
                  have ik2 : (0 : Int) ≤ (k : Int) ∧ (k : Int) < (ni : Int) + 16 := by omega
                  have w5 : IntKind.i64.wrap ((k : Int) + 1) = (k : Int) + 1 := by rw [IntKind.wrap_i64]; omega
                  have w6 : IntKind.i64.wrap ((i : Int) * 1000 + (k : Int)) = (i : Int) * 1000 + (k : Int) := by rw [IntKind.wrap_i64]; omega
                  have a0 := HRD.out g rfl (k * 3 + 0) (.int .i64 0) (by rw [rowA_at i hlk (by decide)]; rfl)
                  have a1 := HRD.out g rfl (k * 3 + 1) (.int .i64 0) (by rw [rowA_at i hlk (by decide)]; rfl)
                  have a2 := HRD.out g rfl (k * 3 + 2) (.int .i64 ((i : Int) * 1000 + (k : Int))) (by rw [rowA_at i hlk (by decide)]; rfl)
                  have b0 := (HCX.out (k * 3 + 0) (.int .i64 0) (by rw [List.getElem?_append_left (by rw [rowA_len]; omega), rowA_at i hlk (by decide)]; rfl)).cell
                  have b1 := (HCX.out (k * 3 + 1) (.int .i64 0) (by rw [List.getElem?_append_left (by rw [rowA_len]; omega), rowA_at i hlk (by decide)]; rfl)).cell
                  have b2 := (HCX.out (k * 3 + 2) (.int .i64 ((i : Int) * 1000 + (k : Int))) (by rw [List.getElem?_append_left (by rw [rowA_len]; omega), rowA_at i hlk (by decide)]; rfl)).cell
                  rw [Nat.add_zero] at a0 b0
                  go_wp2_with fail
                  go_round
                  case rel => exact ⟨k + 1, by omega, by go_num⟩
                  case measure => simp [intOf]; omega
                · have tk : decide (k < ni) = false := by simpa using hlk
                  obtain rfl : k = ni := by omega
                  clear hk hlk
                  go_wp2_with fail
                  go_loop [12] (fun s12 => ∃ k : Nat, k ≤ 16 ∧ s12 = .int .i64 k) (fun s12 => 16 - (intOf s12).toNat)
                  case atStart => exact ⟨0, by omega, rfl⟩
                  case round =>
                    obtain ⟨q, hq, rfl⟩ := hrel
                    by_cases hlq : q < 16
                    · have tq : decide (q < 16) = true := by simpa using hlq
                      have tq' : decide ((q : Int) < 16) = true := by simp; omega
                      have iq : (0 : Int) ≤ (k : Int) + (q : Int) ∧ (k : Int) + (q : Int) < (k : Int) + 16 := by omega
                      have w5 : IntKind.i64.wrap ((q : Int) + 1) = (q : Int) + 1 := by rw [IntKind.wrap_i64]; omega
                      have w6 : IntKind.i64.wrap ((-1 - (i : Int)) * 1000 - (q : Int)) = (-1 - (i : Int)) * 1000 - (q : Int) := by rw [IntKind.wrap_i64]; omega
                      have w7 : IntKind.i64.wrap ((k : Int) + (q : Int)) = (k : Int) + (q : Int) := by rw [IntKind.wrap_i64]; omega
                      have en : ((k : Int) + (q : Int)).toNat = k + q := by omega
                      have ap : ∀ c, c < 3 → (rowA i k ++ rowB i 16)[(k + q) * 3 + c]? = (mkE ((-1 - (i : Int)) * 1000 - q))[c]? := fun c hc => by
                        rw [List.getElem?_append_right (by rw [rowA_len]; omega), rowA_len, show (k + q) * 3 + c - k * 3 = q * 3 + c by omega]
                        exact rowB_at i hlq hc
                      have b0 := (HCX.out ((k + q) * 3 + 0) (.int .i64 0) (by rw [ap 0 (by decide)]; rfl)).cell
                      have b1 := (HCX.out ((k + q) * 3 + 1) (.int .i64 0) (by rw [ap 1 (by decide)]; rfl)).cell
                      have b2 := (HCX.out ((k + q) * 3 + 2) (.int .i64 ((-1 - (i : Int)) * 1000 - (q : Int))) (by rw [ap 2 (by decide)]; rfl)).cell
                      rw [Nat.add_zero] at b0
                      clear ap
                      go_wp2_with fail
                      go_round
                      case rel => exact ⟨q + 1, by omega, by go_num⟩
                      case measure => simp [intOf]; omega
                    · have tq : decide (q < 16) = false := by simpa using hlq
                      have tq' : decide ((q : Int) < 16) = false := by simp; omega
                      go_wp2_with fail
                      go_round
                      case rel => exact ⟨i + 1, by omega, by go_num⟩
                      case measure => simp [intOf]; omega
            · have ti : decide (i < m) = false := by simpa using hlt
              go_wp2_with fail
              go_returns
              exact ⟨rfl, HO.out.only⟩
end Go.Proofs.Ytkglplngnjgnhaa.OwL
