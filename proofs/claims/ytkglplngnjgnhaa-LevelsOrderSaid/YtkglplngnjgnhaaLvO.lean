/- LevelsOrder: the walk. No condition. -/
import Derived.Test.YtkglplngnjgnhaaLv9
namespace Go.Proofs.Ytkglplngnjgnhaa
set_option linter.unusedVariables false
set_option linter.unusedSimpArgs false
open Go.RowKit

theorem mem_take_succ {α : Type} {l : List α} {i : Nat} {x : α} (h : l[i]? = some x) : l.take (i + 1) = l.take i ++ [x] := by rw [List.take_add_one, h]; rfl

set_option maxHeartbeats 4000000 in
set_option maxRecDepth 100000 in
theorem order_buy (w : World) (a : Option Addr) (len cap : Nat) (xs : Nat → Int) (B off : Nat) (ha : 0 < len → a = some ⟨B, off, none⟩ ∧ B < w.heap.size) (hx : ∀ k, k < len → w.cell? ⟨B, off + k, none⟩ = some (.int .i64 (xs k)) ∧ (Lit.int .i64 (xs k)).wf = true)
    (a2 : Option Addr) (len2 cap2 : Nat) (ys : Nat → Int) (B2 off2 : Nat) (ha2 : 0 < len2 → a2 = some ⟨B2, off2, none⟩ ∧ B2 < w.heap.size) (hy : ∀ k, k < len2 → w.cell? ⟨B2, off2 + k, none⟩ = some (.int .i64 (ys k)) ∧ (Lit.int .i64 (ys k)).wf = true) (hlen : len ≤ 140737488351232) (hlen2 : len2 ≤ 140737488351232) :
    Calls Try.prog 3 #[.bool false, .slice a len cap, .slice a2 len2 cap2] w fun e w' => e = .returned (.bool true) ∧ Only (fun _ => False) w w' := by
  have S0 := fun W => Lib.hid (show Calls Try.prog 10 #[.int .u8 1, .int .i64 128] W (SdNew W 128 (-1)) from s_new_buy W 128 (by decide))
  obtain ⟨i1, hi1, hz1, hs1, hb1⟩ := info_parts Try.infoBool
  have m1 := fun W => run_makeN (P := Try.prog) 33 4 i1 _ Try.underlying33 hi1 hz1 hs1 128 (by rw [hb1]; omega) (by omega) W
  obtain ⟨zs, hzs⟩ : ∃ zs, madeCells #[Value.bool false] (128 * 1) = zs := ⟨_, rfl⟩
  change ∀ W : World, (Instr.makeSlice 33 (.int .i64 128) (.int .i64 128)).run Try.prog W = Result.ok (.slice (some ⟨W.heap.size, 0, none⟩) 128 128) (W.alloc (.cells (madeCells #[.bool false] (128 * 1)) _)) at m1
  simp only [hzs] at m1
  have HZS := Lib.hid hzs
  have HA := Lib.hid ha
  have HX := Lib.hid hx
  have HA2 := Lib.hid ha2
  have HY := Lib.hid hy
  clear hi1 hz1 hs1 hb1 hzs ha hx ha2 hy
  go_enter Try.func3, Try.ntmps3
  go_wp2_with fail
  refine (works_walk _).mono ?_
  rintro e w1 ⟨rfl, o1⟩
  go_wp2_with fail
  refine (S0 _).out.mono ?_
  intro e w2 hq
  obtain ⟨b, gu, rfl, H0, o2, g1, g2⟩ := hq
  have o02 := o1.trans o2
  have hl0 : ∀ i, SdB b gu (.slice none 0 0) i → w.heap.size ≤ i := fun i hi => by
    have := o1.size
    rcases hi with e | e | e
    · omega
    · omega
    · cases e
  have HL0 := Lib.hid hl0
  have HH0 := Lib.hid H0
  clear H0 hl0 S0 o1 o2 g1 g2
  go_wp2_with fail
  go_loopw [11] (fun s wr => ∃ (k : Nat) (hv : Value) (L : List (Int × Nat)), k ≤ len ∧ s = .int .i64 k ∧ SideAt wr b gu 128 (-1) hv L ∧ Only (fun _ => False) w wr ∧ ∀ i, SdB b gu hv i → w.heap.size ≤ i) (fun s _ => len - (intOf s).toNat)
  case atStart => exact ⟨0, _, _, by omega, rfl, HH0.out, o02, HL0.out⟩
  case round =>
    clear HH0 HL0 o02
    obtain ⟨k, hv, L, hk, rfl, hS, ho, hl⟩ := hrel
    by_cases hlt : k < len
    · have t1 : decide (k < len) = true := by simpa using hlt
      obtain ⟨ea, hB⟩ := HA.out (by omega)
      subst ea
      have r0 := ho.cell (HX.out k hlt).1 id
      have hbr : B < wr.heap.size := Nat.lt_of_lt_of_le hB ho.size
      have i1 : (0 : Int) ≤ (k : Int) ∧ (k : Int) < (len : Int) := by omega
      have w1' : IntKind.i64.wrap ((k : Int) + 1) = (k : Int) + 1 := by rw [IntKind.wrap_i64]; omega
      have HAD := Lib.hid (any_add hS (xs k))
      have HLO := Lib.hid hl
      obtain ⟨x, hx⟩ : ∃ x, xs k = x := ⟨_, rfl⟩
      rw [hx] at r0 HAD
      clear hS hx hl
      go_wp2_with fail
      refine HAD.out.mono ?_
      intro e w4 hq
      obtain ⟨hv4, L4, ⟨q1, q2, rfl⟩, H4, o4, f4⟩ := hq
      have hz := ho.size
      have HLO4 := Lib.hid (SdB.low HLO.out hz f4)
      have p4 := ho.thenS o4 HLO.out
      clear f4 o4 HAD hz ho r0 hbr
      by_cases hlt2 : k < len2
      · have t2 : decide (k < len2) = true := by simpa using hlt2
        obtain ⟨ea, hB2⟩ := HA2.out (by omega)
        subst ea
        have r2 := p4.cell (HY.out k hlt2).1 id
        have hbr2 : B2 < w4.heap.size := Nat.lt_of_lt_of_le hB2 p4.size
        have i2 : (0 : Int) ≤ (k : Int) ∧ (k : Int) < (len2 : Int) := by omega
        have HDR := Lib.hid (any_drop H4 (ys k))
        obtain ⟨y, hy⟩ : ∃ y, ys k = y := ⟨_, rfl⟩
        rw [hy] at r2 HDR
        clear H4 hy
        go_wp2_with fail
        refine HDR.out.mono ?_
        intro e w5 hq
        obtain ⟨hv5, L5, ⟨q3, rfl⟩, H5, o5, f5⟩ := hq
        have hz := p4.size
        have HLO5 := Lib.hid (SdB.low HLO4.out hz f5)
        have p5 := p4.thenS o5 HLO4.out
        have HH5 := Lib.hid H5
        clear f5 o5 HDR hz H5
        go_wp2_with fail
        go_roundw
        case rel => exact ⟨k + 1, hv5, L5, by omega, by go_num, HH5.out, p5, HLO5.out⟩
        case measure => simp [intOf]; omega
      · have t2 : decide (k < len2) = false := by simpa using hlt2
        have HH4 := Lib.hid H4
        clear H4
        go_wp2_with fail
        go_roundw
        case rel => exact ⟨k + 1, hv4, L4, by omega, by go_num, HH4.out, p4, HLO4.out⟩
        case measure => simp [intOf]; omega
    · have t1 : decide (k < len) = false := by simpa using hlt
      obtain ⟨wo, rfl⟩ : ∃ wo : World, wo = wr := ⟨_, rfl⟩
      have HS := Lib.hid hS
      have HLN := Lib.hid (s_len hS)
      have hln := hS.len
      obtain ⟨n, hn⟩ : ∃ n, n = L.length := ⟨_, rfl⟩
      rw [← hn] at HLN hln
      have t2 : decide ((n : Int) < 0) = false := by simp
      have t3 : decide (128 < n) = false := by simp; omega
      have t3' : decide ((128 : Int) < (n : Int)) = false := by simp; omega
      have HN := Lib.hid hn
      have HLO := Lib.hid hl
      have hz := ho.size
      have oa := ho.alloc (.cells zs 4)
      have HOA := Lib.hid oa
      have HG := Lib.hid (heap_alloc_new wo (.cells zs 4))
      have HSA := Lib.hid (SideU.only hS ((Only.refl (fun _ => False) wo).alloc (.cells zs 4)) (fun _ _ => id))
      have hblk := hS.blk
      have HBL := Lib.hid hblk
      clear hS hn hl oa hblk ho
      go_wp2_with fail
      refine HLN.out.mono ?_
      rintro e w4 ⟨rfl, rfl⟩
      clear HLN
      go_wp2_with fail
      go_loopw [14] (fun s wr => ∃ i : Nat, i ≤ n ∧ s = .int .i64 i ∧ SideAt wr b gu 128 (-1) hv L ∧ Only (fun _ => False) w wr ∧ wo.heap.size < wr.heap.size ∧ ∀ r, r < 128 → Cell wr wo.heap.size r (.bool (decide (r ∈ (L.take i).map Prod.snd)))) (fun s _ => n - (intOf s).toNat)
      case atStart =>
        refine ⟨0, by omega, rfl, HSA.out, HOA.out, by simp, fun r hr => ?_⟩
        have hg := HG.out
        rw [← HZS.out, Nat.mul_one] at hg
        have := cells_made hg r hr
        rw [← HZS.out, Nat.mul_one]
        simpa using this
      case round =>
        clear HSA HOA HG
        obtain ⟨i, hi, rfl, hS, ho, hz2, hC⟩ := hrel
        by_cases hlt2 : i < n
        · have t4 : decide (i < n) = true := by simpa using hlt2
          obtain ⟨x, hx⟩ : ∃ x, L[i]? = some x := ⟨_, List.getElem?_eq_getElem (by rw [← HN.out]; exact hlt2)⟩
          have HAT := Lib.hid (s_at hS i x hx)
          have HBE := Lib.hid (s_better hS x.1)
          have hxm : x ∈ L := List.mem_of_getElem? hx
          have hpos := has_pos hS.hsg hS.srt hx rfl
          rw [← hpos] at HBE
          have HFI := fun W (o : Only (fun _ => False) wr W) => Lib.hid (s_find (SideU.only hS o (fun _ _ => id)) x.1 x.2 hxm)
          have hr := hS.lt x hxm
          have hnm : x.2 ∉ (L.take i).map Prod.snd := fun hm => by
            obtain ⟨y, hy, e⟩ := List.mem_map.1 hm
            obtain ⟨j, hj⟩ := List.mem_iff_getElem?.1 hy
            rw [List.getElem?_take] at hj
            split at hj
            · rename_i hji
              have hnd := hS.nd
              have e1 : (L.map Prod.snd)[j]? = some x.2 := by rw [List.getElem?_map, hj, Option.map_some, e]
              have e2 : (L.map Prod.snd)[i]? = some x.2 := by rw [List.getElem?_map, hx]; rfl
              obtain ⟨p1, p2⟩ := List.getElem?_eq_some_iff.1 e1
              obtain ⟨p3, p4⟩ := List.getElem?_eq_some_iff.1 e2
              have := (List.getElem_inj (h₀ := p1) (h₁ := p3) hnd).1 (p2.trans p4.symm)
              omega
            · cases hj
          have hcx := hC x.2 hr
          rw [decide_eq_false hnm] at hcx
          have HCX := Lib.hid hcx
          have HCC := Lib.hid hC
          have HS2 := Lib.hid hS
          have HX2 := Lib.hid hx
          obtain ⟨p, r⟩ := x
          simp only at HAT HBE HFI hr hcx HCX
          have ir : (0 : Int) ≤ (r : Int) ∧ (r : Int) < 128 := by omega
          have t5 : decide ((r : Int) < 0) = false := by simp
          have t6 : decide (128 ≤ r) = false := by simp; omega
          have t6' : decide ((128 : Int) ≤ (r : Int)) = false := by simp; omega
          have t7 : (i != i) = false := by simp
          have w2' : IntKind.i64.wrap ((i : Int) + 1) = (i : Int) + 1 := by rw [IntKind.wrap_i64]; omega
          clear hS hx hxm hpos hnm hcx hC
          go_wp2_with fail
          refine HAT.out.mono ?_
          rintro e w5 ⟨rfl, rfl⟩
          go_wp2_with fail
          refine HBE.out.mono ?_
          rintro e w6 ⟨rfl, o6⟩
          go_wp2_with fail
          refine (HFI _ o6).out.mono ?_
          rintro e w7 ⟨rfl, o7⟩
          have oq := o6.trans o7
          have c7 := HCX.out.only oq id
          have k7 := c7.cell
          have f7 := c7.free
          have z7 := cell_lt k7
          have HOQ := Lib.hid oq
          have hneg : ∀ j, SdB b gu hv j → ¬ j = wo.heap.size := fun j hj => by have := HBL.out j hj; omega
          have hfin : SideAt (w7.setCell ⟨wo.heap.size, r, none⟩ (.bool true)) b gu 128 (-1) hv L := SideU.only (SideU.only HS2.out oq (fun _ _ => id)) ((Only.refl (· = wo.heap.size) w7).setCell (p := ⟨wo.heap.size, r, none⟩) (.inl rfl) (.bool true)) hneg
          have HFIN := Lib.hid hfin
          have hrel2 : ∀ r', r' < 128 → Cell (w7.setCell ⟨wo.heap.size, r, none⟩ (.bool true)) wo.heap.size r' (.bool (decide (r' ∈ (L.take (i + 1)).map Prod.snd))) := fun r' hr' => by
            rw [mem_take_succ HX2.out, List.map_append]
            by_cases e : r' = r
            · subst e
              rw [decide_eq_true (by simp)]
              exact c7.set _
            · have e2 : decide (r' ∈ (L.take i).map Prod.snd ++ [(p, r)].map Prod.snd) = decide (r' ∈ (L.take i).map Prod.snd) := by
                rw [Bool.eq_iff_iff]; simp [e]
              rw [e2]
              exact ((HCC.out r' hr').only oq id).far (off_ne (fun e' => e e'.symm)) _
          have HREL := Lib.hid hrel2
          clear HFI HAT HBE oq hfin hrel2 hneg c7
          by_cases h0 : i = 0
          · subst h0
            go_wp2_with fail
            go_roundw
            case rel => exact ⟨1, by omega, by rfl, HFIN.out, (ho.trans HOQ.out).setCell (.inr hz) _, by have := HOQ.out.size; simp only [World.size_setCell]; omega, HREL.out⟩
            case measure => simp [intOf]; omega
          · have t8 : decide ((0 : Int) < (i : Int)) = true := by simp; omega
            have t8' : decide (0 < i) = true := by simp; omega
            obtain ⟨y, hy⟩ : ∃ y, L[i - 1]? = some y := ⟨_, List.getElem?_eq_getElem (by rw [← HN.out]; omega)⟩
            have HA1 := Lib.hid (s_at HFIN.out (i - 1) y hy)
            have hlt3 : (-1) * y.1 < (-1) * p := by
              have h1 := (List.getElem?_eq_some_iff.1 hy)
              have h2 := (List.getElem?_eq_some_iff.1 HX2.out)
              obtain ⟨h1a, h1b⟩ := h1
              obtain ⟨h2a, h2b⟩ := h2
              have := List.pairwise_iff_getElem.1 HS2.out.srt (i - 1) i h1a h2a (by omega)
              rw [h1b, h2b] at this
              exact this
            have hc : ((i - 1 : Nat) : Int) = (i : Int) - 1 := by omega
            rw [hc] at HA1
            have w3' : IntKind.i64.wrap ((i : Int) - 1) = (i : Int) - 1 := by rw [IntKind.wrap_i64]; omega
            obtain ⟨qp, qr⟩ := y
            simp only at HA1 hlt3
            have t9 : decide (qp ≤ p) = false := by simp; omega
            clear hy hlt3 hc
            go_wp2_with fail
            refine HA1.out.mono ?_
            rintro e w8 ⟨rfl, rfl⟩
            go_wp2_with fail
            go_roundw
            case rel => exact ⟨i + 1, by omega, by go_num, HFIN.out, (ho.trans HOQ.out).setCell (.inr hz) _, by have := HOQ.out.size; simp only [World.size_setCell]; omega, HREL.out⟩
            case measure => simp [intOf]; omega
        · have t4 : decide (i < n) = false := by simpa using hlt2
          have HNO := Lib.hid (s_at_no hS n (.inr (by rw [HN.out]; omega)))
          clear hS hC
          go_wp2_with fail
          refine HNO.out.mono ?_
          rintro e w5 ⟨rfl, rfl⟩
          go_wp2_with fail
          go_returns
          exact ⟨rfl, ho⟩

set_option maxHeartbeats 4000000 in
set_option maxRecDepth 100000 in
theorem order_sell (w : World) (a : Option Addr) (len cap : Nat) (xs : Nat → Int) (B off : Nat) (ha : 0 < len → a = some ⟨B, off, none⟩ ∧ B < w.heap.size) (hx : ∀ k, k < len → w.cell? ⟨B, off + k, none⟩ = some (.int .i64 (xs k)) ∧ (Lit.int .i64 (xs k)).wf = true)
    (a2 : Option Addr) (len2 cap2 : Nat) (ys : Nat → Int) (B2 off2 : Nat) (ha2 : 0 < len2 → a2 = some ⟨B2, off2, none⟩ ∧ B2 < w.heap.size) (hy : ∀ k, k < len2 → w.cell? ⟨B2, off2 + k, none⟩ = some (.int .i64 (ys k)) ∧ (Lit.int .i64 (ys k)).wf = true) (hlen : len ≤ 140737488351232) (hlen2 : len2 ≤ 140737488351232) :
    Calls Try.prog 3 #[.bool true, .slice a len cap, .slice a2 len2 cap2] w fun e w' => e = .returned (.bool true) ∧ Only (fun _ => False) w w' := by
  have S0 := fun W => Lib.hid (show Calls Try.prog 10 #[.int .u8 2, .int .i64 128] W (SdNew W 128 1) from s_new_sell W 128 (by decide))
  obtain ⟨i1, hi1, hz1, hs1, hb1⟩ := info_parts Try.infoBool
  have m1 := fun W => run_makeN (P := Try.prog) 33 4 i1 _ Try.underlying33 hi1 hz1 hs1 128 (by rw [hb1]; omega) (by omega) W
  obtain ⟨zs, hzs⟩ : ∃ zs, madeCells #[Value.bool false] (128 * 1) = zs := ⟨_, rfl⟩
  change ∀ W : World, (Instr.makeSlice 33 (.int .i64 128) (.int .i64 128)).run Try.prog W = Result.ok (.slice (some ⟨W.heap.size, 0, none⟩) 128 128) (W.alloc (.cells (madeCells #[.bool false] (128 * 1)) _)) at m1
  simp only [hzs] at m1
  have HZS := Lib.hid hzs
  have HA := Lib.hid ha
  have HX := Lib.hid hx
  have HA2 := Lib.hid ha2
  have HY := Lib.hid hy
  clear hi1 hz1 hs1 hb1 hzs ha hx ha2 hy
  go_enter Try.func3, Try.ntmps3
  go_wp2_with fail
  refine (works_walk _).mono ?_
  rintro e w1 ⟨rfl, o1⟩
  go_wp2_with fail
  refine (S0 _).out.mono ?_
  intro e w2 hq
  obtain ⟨b, gu, rfl, H0, o2, g1, g2⟩ := hq
  have o02 := o1.trans o2
  have hl0 : ∀ i, SdB b gu (.slice none 0 0) i → w.heap.size ≤ i := fun i hi => by
    have := o1.size
    rcases hi with e | e | e
    · omega
    · omega
    · cases e
  have HL0 := Lib.hid hl0
  have HH0 := Lib.hid H0
  clear H0 hl0 S0 o1 o2 g1 g2
  go_wp2_with fail
  go_loopw [11] (fun s wr => ∃ (k : Nat) (hv : Value) (L : List (Int × Nat)), k ≤ len ∧ s = .int .i64 k ∧ SideAt wr b gu 128 1 hv L ∧ Only (fun _ => False) w wr ∧ ∀ i, SdB b gu hv i → w.heap.size ≤ i) (fun s _ => len - (intOf s).toNat)
  case atStart => exact ⟨0, _, _, by omega, rfl, HH0.out, o02, HL0.out⟩
  case round =>
    clear HH0 HL0 o02
    obtain ⟨k, hv, L, hk, rfl, hS, ho, hl⟩ := hrel
    by_cases hlt : k < len
    · have t1 : decide (k < len) = true := by simpa using hlt
      obtain ⟨ea, hB⟩ := HA.out (by omega)
      subst ea
      have r0 := ho.cell (HX.out k hlt).1 id
      have hbr : B < wr.heap.size := Nat.lt_of_lt_of_le hB ho.size
      have i1 : (0 : Int) ≤ (k : Int) ∧ (k : Int) < (len : Int) := by omega
      have w1' : IntKind.i64.wrap ((k : Int) + 1) = (k : Int) + 1 := by rw [IntKind.wrap_i64]; omega
      have HAD := Lib.hid (any_add hS (xs k))
      have HLO := Lib.hid hl
      obtain ⟨x, hx⟩ : ∃ x, xs k = x := ⟨_, rfl⟩
      rw [hx] at r0 HAD
      clear hS hx hl
      go_wp2_with fail
      refine HAD.out.mono ?_
      intro e w4 hq
      obtain ⟨hv4, L4, ⟨q1, q2, rfl⟩, H4, o4, f4⟩ := hq
      have hz := ho.size
      have HLO4 := Lib.hid (SdB.low HLO.out hz f4)
      have p4 := ho.thenS o4 HLO.out
      clear f4 o4 HAD hz ho r0 hbr
      by_cases hlt2 : k < len2
      · have t2 : decide (k < len2) = true := by simpa using hlt2
        obtain ⟨ea, hB2⟩ := HA2.out (by omega)
        subst ea
        have r2 := p4.cell (HY.out k hlt2).1 id
        have hbr2 : B2 < w4.heap.size := Nat.lt_of_lt_of_le hB2 p4.size
        have i2 : (0 : Int) ≤ (k : Int) ∧ (k : Int) < (len2 : Int) := by omega
        have HDR := Lib.hid (any_drop H4 (ys k))
        obtain ⟨y, hy⟩ : ∃ y, ys k = y := ⟨_, rfl⟩
        rw [hy] at r2 HDR
        clear H4 hy
        go_wp2_with fail
        refine HDR.out.mono ?_
        intro e w5 hq
        obtain ⟨hv5, L5, ⟨q3, rfl⟩, H5, o5, f5⟩ := hq
        have hz := p4.size
        have HLO5 := Lib.hid (SdB.low HLO4.out hz f5)
        have p5 := p4.thenS o5 HLO4.out
        have HH5 := Lib.hid H5
        clear f5 o5 HDR hz H5
        go_wp2_with fail
        go_roundw
        case rel => exact ⟨k + 1, hv5, L5, by omega, by go_num, HH5.out, p5, HLO5.out⟩
        case measure => simp [intOf]; omega
      · have t2 : decide (k < len2) = false := by simpa using hlt2
        have HH4 := Lib.hid H4
        clear H4
        go_wp2_with fail
        go_roundw
        case rel => exact ⟨k + 1, hv4, L4, by omega, by go_num, HH4.out, p4, HLO4.out⟩
        case measure => simp [intOf]; omega
    · have t1 : decide (k < len) = false := by simpa using hlt
      obtain ⟨wo, rfl⟩ : ∃ wo : World, wo = wr := ⟨_, rfl⟩
      have HS := Lib.hid hS
      have HLN := Lib.hid (s_len hS)
      have hln := hS.len
      obtain ⟨n, hn⟩ : ∃ n, n = L.length := ⟨_, rfl⟩
      rw [← hn] at HLN hln
      have t2 : decide ((n : Int) < 0) = false := by simp
      have t3 : decide (128 < n) = false := by simp; omega
      have t3' : decide ((128 : Int) < (n : Int)) = false := by simp; omega
      have HN := Lib.hid hn
      have HLO := Lib.hid hl
      have hz := ho.size
      have oa := ho.alloc (.cells zs 4)
      have HOA := Lib.hid oa
      have HG := Lib.hid (heap_alloc_new wo (.cells zs 4))
      have HSA := Lib.hid (SideU.only hS ((Only.refl (fun _ => False) wo).alloc (.cells zs 4)) (fun _ _ => id))
      have hblk := hS.blk
      have HBL := Lib.hid hblk
      clear hS hn hl oa hblk ho
      go_wp2_with fail
      refine HLN.out.mono ?_
      rintro e w4 ⟨rfl, rfl⟩
      clear HLN
      go_wp2_with fail
      go_loopw [14] (fun s wr => ∃ i : Nat, i ≤ n ∧ s = .int .i64 i ∧ SideAt wr b gu 128 1 hv L ∧ Only (fun _ => False) w wr ∧ wo.heap.size < wr.heap.size ∧ ∀ r, r < 128 → Cell wr wo.heap.size r (.bool (decide (r ∈ (L.take i).map Prod.snd)))) (fun s _ => n - (intOf s).toNat)
      case atStart =>
        refine ⟨0, by omega, rfl, HSA.out, HOA.out, by simp, fun r hr => ?_⟩
        have hg := HG.out
        rw [← HZS.out, Nat.mul_one] at hg
        have := cells_made hg r hr
        rw [← HZS.out, Nat.mul_one]
        simpa using this
      case round =>
        clear HSA HOA HG
        obtain ⟨i, hi, rfl, hS, ho, hz2, hC⟩ := hrel
        by_cases hlt2 : i < n
        · have t4 : decide (i < n) = true := by simpa using hlt2
          obtain ⟨x, hx⟩ : ∃ x, L[i]? = some x := ⟨_, List.getElem?_eq_getElem (by rw [← HN.out]; exact hlt2)⟩
          have HAT := Lib.hid (s_at hS i x hx)
          have HBE := Lib.hid (s_better hS x.1)
          have hxm : x ∈ L := List.mem_of_getElem? hx
          have hpos := has_pos hS.hsg hS.srt hx rfl
          rw [← hpos] at HBE
          have HFI := fun W (o : Only (fun _ => False) wr W) => Lib.hid (s_find (SideU.only hS o (fun _ _ => id)) x.1 x.2 hxm)
          have hr := hS.lt x hxm
          have hnm : x.2 ∉ (L.take i).map Prod.snd := fun hm => by
            obtain ⟨y, hy, e⟩ := List.mem_map.1 hm
            obtain ⟨j, hj⟩ := List.mem_iff_getElem?.1 hy
            rw [List.getElem?_take] at hj
            split at hj
            · rename_i hji
              have hnd := hS.nd
              have e1 : (L.map Prod.snd)[j]? = some x.2 := by rw [List.getElem?_map, hj, Option.map_some, e]
              have e2 : (L.map Prod.snd)[i]? = some x.2 := by rw [List.getElem?_map, hx]; rfl
              obtain ⟨p1, p2⟩ := List.getElem?_eq_some_iff.1 e1
              obtain ⟨p3, p4⟩ := List.getElem?_eq_some_iff.1 e2
              have := (List.getElem_inj (h₀ := p1) (h₁ := p3) hnd).1 (p2.trans p4.symm)
              omega
            · cases hj
          have hcx := hC x.2 hr
          rw [decide_eq_false hnm] at hcx
          have HCX := Lib.hid hcx
          have HCC := Lib.hid hC
          have HS2 := Lib.hid hS
          have HX2 := Lib.hid hx
          obtain ⟨p, r⟩ := x
          simp only at HAT HBE HFI hr hcx HCX
          have ir : (0 : Int) ≤ (r : Int) ∧ (r : Int) < 128 := by omega
          have t5 : decide ((r : Int) < 0) = false := by simp
          have t6 : decide (128 ≤ r) = false := by simp; omega
          have t6' : decide ((128 : Int) ≤ (r : Int)) = false := by simp; omega
          have t7 : (i != i) = false := by simp
          have w2' : IntKind.i64.wrap ((i : Int) + 1) = (i : Int) + 1 := by rw [IntKind.wrap_i64]; omega
          clear hS hx hxm hpos hnm hcx hC
          go_wp2_with fail
          refine HAT.out.mono ?_
          rintro e w5 ⟨rfl, rfl⟩
          go_wp2_with fail
          refine HBE.out.mono ?_
          rintro e w6 ⟨rfl, o6⟩
          go_wp2_with fail
          refine (HFI _ o6).out.mono ?_
          rintro e w7 ⟨rfl, o7⟩
          have oq := o6.trans o7
          have c7 := HCX.out.only oq id
          have k7 := c7.cell
          have f7 := c7.free
          have z7 := cell_lt k7
          have HOQ := Lib.hid oq
          have hneg : ∀ j, SdB b gu hv j → ¬ j = wo.heap.size := fun j hj => by have := HBL.out j hj; omega
          have hfin : SideAt (w7.setCell ⟨wo.heap.size, r, none⟩ (.bool true)) b gu 128 1 hv L := SideU.only (SideU.only HS2.out oq (fun _ _ => id)) ((Only.refl (· = wo.heap.size) w7).setCell (p := ⟨wo.heap.size, r, none⟩) (.inl rfl) (.bool true)) hneg
          have HFIN := Lib.hid hfin
          have hrel2 : ∀ r', r' < 128 → Cell (w7.setCell ⟨wo.heap.size, r, none⟩ (.bool true)) wo.heap.size r' (.bool (decide (r' ∈ (L.take (i + 1)).map Prod.snd))) := fun r' hr' => by
            rw [mem_take_succ HX2.out, List.map_append]
            by_cases e : r' = r
            · subst e
              rw [decide_eq_true (by simp)]
              exact c7.set _
            · have e2 : decide (r' ∈ (L.take i).map Prod.snd ++ [(p, r)].map Prod.snd) = decide (r' ∈ (L.take i).map Prod.snd) := by
                rw [Bool.eq_iff_iff]; simp [e]
              rw [e2]
              exact ((HCC.out r' hr').only oq id).far (off_ne (fun e' => e e'.symm)) _
          have HREL := Lib.hid hrel2
          clear HFI HAT HBE oq hfin hrel2 hneg c7
          by_cases h0 : i = 0
          · subst h0
            go_wp2_with fail
            go_roundw
            case rel => exact ⟨1, by omega, by rfl, HFIN.out, (ho.trans HOQ.out).setCell (.inr hz) _, by have := HOQ.out.size; simp only [World.size_setCell]; omega, HREL.out⟩
            case measure => simp [intOf]; omega
          · have t8 : decide ((0 : Int) < (i : Int)) = true := by simp; omega
            have t8' : decide (0 < i) = true := by simp; omega
            obtain ⟨y, hy⟩ : ∃ y, L[i - 1]? = some y := ⟨_, List.getElem?_eq_getElem (by rw [← HN.out]; omega)⟩
            have HA1 := Lib.hid (s_at HFIN.out (i - 1) y hy)
            have hlt3 : 1 * y.1 < 1 * p := by
              have h1 := (List.getElem?_eq_some_iff.1 hy)
              have h2 := (List.getElem?_eq_some_iff.1 HX2.out)
              obtain ⟨h1a, h1b⟩ := h1
              obtain ⟨h2a, h2b⟩ := h2
              have := List.pairwise_iff_getElem.1 HS2.out.srt (i - 1) i h1a h2a (by omega)
              rw [h1b, h2b] at this
              exact this
            have hc : ((i - 1 : Nat) : Int) = (i : Int) - 1 := by omega
            rw [hc] at HA1
            have w3' : IntKind.i64.wrap ((i : Int) - 1) = (i : Int) - 1 := by rw [IntKind.wrap_i64]; omega
            obtain ⟨qp, qr⟩ := y
            simp only at HA1 hlt3
            have t9 : decide (p ≤ qp) = false := by simp; omega
            clear hy hlt3 hc
            go_wp2_with fail
            refine HA1.out.mono ?_
            rintro e w8 ⟨rfl, rfl⟩
            go_wp2_with fail
            go_roundw
            case rel => exact ⟨i + 1, by omega, by go_num, HFIN.out, (ho.trans HOQ.out).setCell (.inr hz) _, by have := HOQ.out.size; simp only [World.size_setCell]; omega, HREL.out⟩
            case measure => simp [intOf]; omega
        · have t4 : decide (i < n) = false := by simpa using hlt2
          have HNO := Lib.hid (s_at_no hS n (.inr (by rw [HN.out]; omega)))
          clear hS hC
          go_wp2_with fail
          refine HNO.out.mono ?_
          rintro e w5 ⟨rfl, rfl⟩
          go_wp2_with fail
          go_returns
          exact ⟨rfl, ho⟩

theorem levelsOrder_walk (w : World) (sell : Bool) (a : Option Addr) (len cap : Nat) (rows : List (List Value)) (hs : SliceIn w a len cap [.i .i64] rows) (hlen : len * 8 ≤ 140737488351232)
    (a2 : Option Addr) (len2 cap2 : Nat) (rows2 : List (List Value)) (hs2 : SliceIn w a2 len2 cap2 [.i .i64] rows2) (hlen2 : len2 * 8 ≤ 140737488351232) :
    Calls Try.prog 3 #[.bool sell, .slice a len cap, .slice a2 len2 cap2] w fun e w' => e = .returned (.bool true) ∧ Below w.heap.size w w' := by
  obtain ⟨xs, B, off, h1, h2⟩ := hs.ints
  obtain ⟨ys, B2, off2, h3, h4⟩ := hs2.ints
  cases sell with
  | false => exact (order_buy w a len cap xs B off h1 h2 a2 len2 cap2 ys B2 off2 h3 h4 (by omega) (by omega)).mono fun _ _ ⟨he, ho⟩ => ⟨he, ho.below⟩
  | true => exact (order_sell w a len cap xs B off h1 h2 a2 len2 cap2 ys B2 off2 h3 h4 (by omega) (by omega)).mono fun _ _ ⟨he, ho⟩ => ⟨he, ho.below⟩
end Go.Proofs.Ytkglplngnjgnhaa
