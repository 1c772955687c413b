/- LevelsDoes: the walk. No condition. -/
import Derived.Test.YtkglplngnjgnhaaLd2
namespace Go.Proofs.Ytkglplngnjgnhaa
set_option linter.unusedVariables false
set_option linter.unusedSimpArgs false
open Go.RowKit

theorem new_no (w : World) (x0 x1 : Int) (h : (x0 ≠ 1 ∧ x0 ≠ 2) ∨ x1 < 0 ∨ 128 < x1) : Calls Try.prog 10 #[.int .u8 x0, .int .i64 x1] w fun e w' => e = .returned (.tuple #[.pointer none, .int .i64 1]) ∧ Only (fun _ => False) w w' := by
  by_cases h1 : x1 < 0 ∨ 128 < x1
  · exact s_new_no w x0 x1 h1
  · obtain ⟨k, rfl⟩ : ∃ k : Nat, x1 = k := ⟨x1.toNat, by omega⟩
    exact s_new_side w x0 k (by omega) (by omega) (by omega)

set_option maxHeartbeats 1000000 in
set_option maxRecDepth 100000 in
theorem levelsDoes_no (w : World) (x0 x1 : Int) (h : (x0 ≠ 1 ∧ x0 ≠ 2) ∨ x1 < 0 ∨ 128 < x1) (a : Option Addr) (len cap : Nat) :
    Calls Try.prog 5 #[.int .u8 x0, .int .i64 x1, .slice a len cap] w fun e w' => e = .returned (.bool true) ∧ Only (fun _ => False) w w' := by
  have S0 := fun W => Lib.hid (new_no W x0 x1 h)
  have S1 := fun W => Lib.hid (r_new_no W x0 x1 h)
  clear h
  go_enter Try.func5, Try.ntmps5
  go_wp2_with fail
  refine (works_walk _).mono ?_
  rintro e w1 ⟨rfl, o1⟩
  go_wp2_with fail
  refine (S0 _).out.mono ?_
  rintro e w2 ⟨rfl, o2⟩
  go_wp2_with fail
  refine (S1 _).out.mono ?_
  rintro e w3 ⟨rfl, rfl⟩
  go_wp2_with fail
  go_returns
  exact ⟨rfl, by repeat' (first | (with_reducible exact Only.refl _ _) | (with_reducible assumption) | (refine Only.of_none ?_; with_reducible assumption) | (with_reducible refine Only.drewN ?_ _) | (with_reducible refine Only.drew ?_) | (with_reducible refine Only.alloc ?_ _) | (with_reducible refine Only.setCell ?_ ?_ _) | (with_reducible refine Only.then0 ?_ (by with_reducible assumption)) | (with_reducible refine Only.thenN ?_ (by with_reducible assumption) ?_) | (with_reducible refine Only.trans ?_ (by with_reducible assumption)) | (refine .inl ?_; first | rfl | (simp; done) | (simp [Ar.blk]; done)) | (refine .inr ?_; first | omega | (simp; done) | (simp; omega) | exact Only.size (by with_reducible assumption) | (refine Nat.le_trans (Only.size (by with_reducible assumption)) ?_; simp; done)))⟩

theorem new_yes (w : World) (x0 sg : Int) (most : Nat) (hm : most ≤ 128) (hsd : (x0 = 1 ∧ sg = -1) ∨ (x0 = 2 ∧ sg = 1)) : Calls Try.prog 10 #[.int .u8 x0, .int .i64 most] w (SdNew w most sg) := by
  rcases hsd with ⟨rfl, rfl⟩ | ⟨rfl, rfl⟩
  · exact s_new_buy w most hm
  · exact s_new_sell w most hm

set_option maxHeartbeats 4000000 in
set_option maxRecDepth 100000 in
theorem levelsDoes_yes (w : World) (x0 sg : Int) (most : Nat) (hm : most ≤ 128) (hsd : (x0 = 1 ∧ sg = -1) ∨ (x0 = 2 ∧ sg = 1)) (a : Option Addr) (len cap : Nat) (rows : List (List Value)) (hs : SliceIn w a len cap [.i .i64, .i .i64, .i .i64] rows) (hlen : len * 24 ≤ 140737488351232) :
    Calls Try.prog 5 #[.int .u8 x0, .int .i64 most, .slice a len cap] w fun e w' => e = .returned (.bool true) ∧ Only (fun _ => False) w w' := by
  have S0 := fun W => Lib.hid (new_yes W x0 sg most hm hsd)
  have S1 := fun W => Lib.hid (r_new W x0 sg most hm hsd)
  have S2 := fun W => Lib.hid (show Calls Try.prog 10 #[.int .u8 2, .int .i64 2] W (SdNew W 2 1) from s_new_sell W 2 (by decide))
  clear hsd
  go_enter Try.func5, Try.ntmps5
  go_wp2_with fail
  refine (works_walk _).mono ?_
  rintro e w1 ⟨rfl, o1⟩
  go_wp2_with fail
  refine (S0 _).out.mono ?_
  intro e w2 hq
  obtain ⟨b, gu, rfl, L2, o2, k1, k2⟩ := hq
  have hb2 := fun i => L2.blk i
  have L2 := Lib.hid L2
  go_wp2_with fail
  refine (S1 _).out.mono ?_
  intro e w3 hq
  obtain ⟨rb, rfl, R3, o3, m1⟩ := hq
  have hb3 := fun i => R3.blk i
  have R3 := Lib.hid R3
  go_wp2_with fail
  refine (S2 _).out.mono ?_
  intro e w4 hq
  obtain ⟨b4, gu4, rfl, T4, o4, n1, n2⟩ := hq
  have hb4 := fun i => T4.blk i
  have HP := Lib.hid (show Calls Try.prog 11 #[.pointer (some ⟨b4, 0, none⟩), .int .i64 77] w4 (SdPost b4 gu4 2 1 (.slice none 0 0) [(77, 0)] w4 (.tuple #[.int .i64 0, .int .i64 0])) from s_add T4 77 (by decide) (by decide) rfl 0 (by decide) (by simp) (fun k hk => by omega) (by decide))
  clear T4
  go_wp2_with fail
  refine HP.out.mono ?_
  intro e w5 hq
  obtain ⟨hv5, rfl, T5, o5, l5⟩ := hq
  have hz5 := o5.size
  have hz4 := o4.size
  have hz3 := o3.size
  have hz2 := o2.size
  have hz1 := o1.size
  have hb5 := fun i => T5.blk i
  have hsep : ∀ i, SdB b4 gu4 (.slice none 0 0) i → w3.heap.size ≤ i ∧ i < w4.heap.size := fun i hi => by
    refine ⟨?_, hb4 i hi⟩
    rcases hi with e | e | e
    · omega
    · omega
    · cases e
  have hsep5 : ∀ i, SdB b4 gu4 hv5 i → w3.heap.size ≤ i ∧ i < w5.heap.size := fun i hi => by
    refine ⟨?_, hb5 i hi⟩
    rcases hi with e | e | e
    · omega
    · omega
    · rcases l5 with e' | ⟨g, e', hg⟩
      · rw [e'] at e; cases e
      · rw [e'] at e; injection e with e; omega
  have hlo2 : ∀ i, SdB b gu (.slice none 0 0) i → w1.heap.size ≤ i := fun i hi => by
    rcases hi with e | e | e
    · omega
    · omega
    · cases e
  have hlo3 : ∀ i, R5B rb (.slice none 0 0) i → w2.heap.size ≤ i := fun i hi => by
    rcases hi with e | e
    · omega
    · cases e
  obtain ⟨Z, hZd⟩ : ∃ Z : Nat → Prop, Z = fun i => w1.heap.size ≤ i ∧ ¬ SdB b4 gu4 hv5 i := ⟨_, rfl⟩
  have P5 : Pair Z w5.heap.size b gu rb most x0 sg w5.heap.size w5 := by
    have q1 := SideU.only (SideU.only (SideU.only L2.out o3 (fun _ _ => id)) o4 (fun _ _ => id)) o5 (fun i hi hB => by have := hb2 i hi; have := hsep i hB; omega)
    have q2 := (R3.out.only o4 (fun _ _ => id)).only o5 (fun i hi hB => by have := hb3 i hi; have := hsep i hB; omega)
    refine ⟨Nat.le_refl _, _, _, _, q1, q2, fun i hi => ⟨?_, by have := hb2 i hi; omega⟩, fun i hi => ?_, fun i hi hB => by have := hb2 i hi; have := hlo3 i hB; omega⟩
    · rw [hZd]; exact ⟨hlo2 i hi, fun hB => by have := hb2 i hi; have := hsep5 i hB; omega⟩
    · rw [hZd]; exact ⟨by have := hlo3 i hi; omega, fun hB => by have := hb3 i hi; have := hsep5 i hB; omega⟩
  have hZ : ∀ i, w5.heap.size ≤ i → Z i := fun i hi => by rw [hZd]; exact ⟨by omega, fun hB => by have := hb5 i hB; omega⟩
  have hst : ∀ i, SdB b4 gu4 hv5 i → ¬ Z i := fun i hi hB => by rw [hZd] at hB; exact hB.2 hi
  have hnb : ∀ i, Z i → w1.heap.size ≤ i := fun i hB => by rw [hZd] at hB; exact hB.1
  have o05 : Only (fun _ => False) w w5 := ((((o1.trans o2).trans o3).trans o4).trans' o5 (fun i hi hB => by have := hsep i hB; omega))
  have o01 := o1.size
  obtain ⟨B0, hB0⟩ : ∃ B0, w5.heap.size = B0 := ⟨_, rfl⟩
  rw [hB0] at P5 hZ
  have T5 := Lib.hid T5
  have P5 := Lib.hid (hB0 ▸ P5 : Pair Z B0 b gu rb most x0 sg w5.heap.size w5)
  have HZ := Lib.hid hZ
  have HST := Lib.hid hst
  have HNB := Lib.hid (fun i hi => Nat.le_trans o01 (hnb i hi))
  have O05 := Lib.hid o05
  clear hZ hst hnb hsep hsep5 hlo2 hlo3 hb2 hb3 hb4 hb5 L2 R3 HP S0 S1 S2 o1 o2 o3 o4 o5 k1 k2 m1 n1 n2 o05 l5 hZd hB0 o01
  go_wp2_with fail
  go_loopw [14] (fun s wr => ∃ k : Nat, k ≤ len ∧ s = .int .i64 k ∧ Pair Z B0 b gu rb most x0 sg wr.heap.size wr ∧ SideAt wr b4 gu4 2 1 hv5 [(77, 0)] ∧ Only (fun _ => False) w wr)
    (fun s _ => len - (intOf s).toNat)
  case atStart => exact ⟨0, by omega, rfl, P5.out, T5.out, O05.out⟩
  case round =>
    clear P5 T5 O05
    obtain ⟨k, hk, rfl, hP, hT, ho⟩ := hrel
    by_cases hlt : k < len
    · obtain ⟨B, off, ha, hB, hcell⟩ := hs.at_ (by omega) (by decide)
      subst ha
      obtain ⟨r, hr⟩ : ∃ r, rows[k]? = some r := ⟨_, List.getElem?_eq_getElem (by rw [hs.1]; exact hlt)⟩
      obtain ⟨kind, _, rfl, hw0, hf⟩ := fits_i (hs.2.1 r (List.mem_of_getElem? hr))
      obtain ⟨pp, _, rfl, hw1, hf⟩ := fits_i hf
      obtain ⟨num, _, rfl, hw2, hf⟩ := fits_i hf
      obtain rfl := fits_nil hf
      have r0 := ho.cell (hcell k _ hr 0 _ rfl) id
      have r1 := ho.cell (hcell k _ hr 1 _ rfl) id
      have r2 := ho.cell (hcell k _ hr 2 _ rfl) id
      simp only [List.length_cons, List.length_nil, Nat.zero_add, Nat.reduceAdd, Nat.add_zero] at r0 r1 r2
      have hbr : B < wr.heap.size := Nat.lt_of_lt_of_le hB ho.size
      have t1 : decide (k < len) = true := by simpa using hlt
      have i1 : (0 : Int) ≤ (k : Int) ∧ (k : Int) < (len : Int) := by omega
      have w1' : IntKind.i64.wrap ((k : Int) + 1) = (k : Int) + 1 := by rw [IntKind.wrap_i64]; omega
      have HD := Lib.hid (s_does HZ.out wr hP kind pp num)
      have HT := Lib.hid hT
      clear hcell hf hr hP hT
      go_wp2_with fail
      refine HD.out.mono ?_
      rintro e w6 ⟨rfl, p6, o6⟩
      have P6 := Lib.hid p6
      clear p6 HD
      go_wp2_with fail
      go_roundw
      case rel => exact ⟨k + 1, by omega, by go_num, P6.out, SideU.only HT.out o6 HST.out, ho.trans' o6 (fun i hi hB => by have := HNB.out i hB; omega)⟩
      case measure => simp [intOf]; omega
    · have t1 : decide (k < len) = false := by simpa using hlt
      have HG := Lib.hid (show Calls Try.prog 20 #[.pointer (some ⟨b4, 0, none⟩)] wr (fun e w' => e = .returned (.tuple #[.int .i64 77, .bool true]) ∧ wr = w') from s_best (77, 0) [] hT)
      have HL := Lib.hid (show Calls Try.prog 13 #[.pointer (some ⟨b4, 0, none⟩)] wr (fun e w' => e = .returned (.int .i64 1) ∧ wr = w') from s_len hT)
      have HK := Lib.hid (s_looks wr hP)
      clear hP hT
      go_wp2_with fail
      refine HG.out.mono ?_
      rintro e w6 ⟨rfl, rfl⟩
      go_wp2_with fail
      refine HL.out.mono ?_
      rintro e w7 ⟨rfl, rfl⟩
      go_wp2_with fail
      refine HK.out.mono ?_
      rintro e w8 ⟨rfl, o8⟩
      go_wp2_with fail
      go_returns
      exact ⟨rfl, ho.trans o8⟩

theorem levelsDoes_walk (w : World) (x0 : Int) (wf0 : (Lit.int .u8 x0).wf = true) (x1 : Int) (wf1 : (Lit.int .i64 x1).wf = true) (a : Option Addr) (len cap : Nat) (rows : List (List Value)) (hs : SliceIn w a len cap [.i .i64, .i .i64, .i .i64] rows) (hlen : len * 24 ≤ 140737488351232) :
    Calls Try.prog 5 #[.int .u8 x0, .int .i64 x1, .slice a len cap] w fun e w' => e = .returned (.bool true) ∧ Below w.heap.size w w' := by
  by_cases h : (x0 ≠ 1 ∧ x0 ≠ 2) ∨ x1 < 0 ∨ 128 < x1
  · exact (levelsDoes_no w x0 x1 h a len cap).mono fun _ _ ⟨he, ho⟩ => ⟨he, ho.below⟩
  · obtain ⟨most, rfl⟩ : ∃ k : Nat, x1 = k := ⟨x1.toNat, by omega⟩
    obtain ⟨sg, hsd⟩ : ∃ sg : Int, (x0 = 1 ∧ sg = -1) ∨ (x0 = 2 ∧ sg = 1) := by
      by_cases h1 : x0 = 1
      · exact ⟨-1, .inl ⟨h1, rfl⟩⟩
      · exact ⟨1, .inr ⟨by omega, rfl⟩⟩
    exact (levelsDoes_yes w x0 sg most (by omega) hsd a len cap rows hs hlen).mono fun _ _ ⟨he, ho⟩ => ⟨he, ho.below⟩
end Go.Proofs.Ytkglplngnjgnhaa
