/- SlotsDoes: the walk. No condition. -/
import Derived.Test.YtiiflgihjnlmcaaDoes2
import Derived.Test.YtiiflgihjnlmcaaStrG
import Derived.Test.YtiiflgihjnlmcaaSlotsW
import Derived.Test.YtiiflgihjnlmcaaSlotsX
namespace Go.Proofs.Ytiiflgihjnlmcaa
set_option linter.unusedVariables false
set_option linter.unusedSimpArgs false
open Go.RowKit

def mineS : ByteArray := ⟨#[109, 105, 110, 101]⟩

set_option maxHeartbeats 1000000 in
set_option maxRecDepth 100000 in
theorem slotsDoes_no (w : World) (x0 x1 : Int) (h : x0 < 1 ∨ x0 > 65536 ∨ x1 < 0 ∨ x1 > 65536) (a : Option Addr) (len cap : Nat) :
    Calls Try.prog 13 #[.int .i64 x0, .int .i64 x1, .slice a len cap] w fun e w' => e = .returned (.bool true) ∧ Only (fun _ => False) w w' := by
  have S0 := fun W => Lib.hid (s_new_no W x0 x1 h)
  have S1 := fun W => Lib.hid (ra_new_no W x0 x1 h)
  clear h
  go_enter Try.func13, Try.ntmps13
  go_wp2_with fail
  refine (works_walk _).mono ?_
  rintro e w1 ⟨rfl, o1⟩
  go_wp2_with fail
  refine (S0 _).out.mono ?_
  rintro e w2 ⟨rfl, o2⟩
  go_wp2_with fail
  refine (S1 _).out.mono ?_
  rintro e w3 ⟨rfl, rfl⟩
  go_wp2_with fail
  go_returns
  exact ⟨rfl, by repeat' (first | (with_reducible exact Only.refl _ _) | (with_reducible assumption) | (refine Only.of_none ?_; with_reducible assumption) | (with_reducible refine Only.drewN ?_ _) | (with_reducible refine Only.drew ?_) | (with_reducible refine Only.alloc ?_ _) | (with_reducible refine Only.setCell ?_ ?_ _) | (with_reducible refine Only.then0 ?_ (by with_reducible assumption)) | (with_reducible refine Only.thenN ?_ (by with_reducible assumption) ?_) | (with_reducible refine Only.trans ?_ (by with_reducible assumption)) | (refine .inl ?_; first | rfl | (simp; done) | (simp [Ar.blk]; done)) | (refine .inr ?_; first | omega | (simp; done) | (simp; omega) | exact Only.size (by with_reducible assumption) | (refine Nat.le_trans (Only.size (by with_reducible assumption)) ?_; simp; done)))⟩

theorem Str.Lay.keepO {w w' : World} {b gl gr gf nr room : Nat} {R : Nat → List Nat} {V : Nat → ByteArray} (h : Str.Lay w b gl gr gf nr room R V) {S : Nat → Prop} (ho : Only S w w') (hS : ∀ i, Blk4 b gl gr gf i → ¬ S i) : Str.Lay w' b gl gr gf nr room R V := Str.Lay.keep h ho hS

set_option maxHeartbeats 4000000 in
set_option maxRecDepth 100000 in
theorem slotsDoes_yes (w : World) (nr room : Nat) (h1 : 1 ≤ nr) (h2 : nr ≤ 65536) (h3 : room ≤ 65536) (a : Option Addr) (len cap : Nat) (rows : List (List Value)) (hs : SliceIn w a len cap [.i .i64, .i .i64, .i .i64, .i .i64] rows) (hlen : len * 32 ≤ 140737488351232) :
    Calls Try.prog 13 #[.int .i64 nr, .int .i64 room, .slice a len cap] w fun e w' => e = .returned (.bool true) ∧ Only (fun _ => False) w w' := by
  have S0 := fun W => Lib.hid (h_new W nr room h1 h2 h3)
  have S1 := fun W => Lib.hid (ra_new W nr room h1 h2 h3)
  have S2 := fun W => Lib.hid (show Calls Try.prog 71 #[.int .i64 1, .int .i64 3] W (Str.HNew W 1 3) from Str.h_new W 1 3 (by omega) (by omega) (by omega))
  go_enter Try.func13, Try.ntmps13
  go_wp2_with fail
  refine (works_walk _).mono ?_
  rintro e w1 ⟨rfl, o1⟩
  go_wp2_with fail
  refine (S0 _).out.mono ?_
  rintro e w2 ⟨b, gl, gr, gf, rfl, L2, o2, k1, k2, k3, k4⟩
  have hb2 := L2.blk
  have L2 := Lib.hid L2
  go_wp2_with fail
  refine (S1 _).out.mono ?_
  rintro e w3 ⟨rb, rg, ru, rfl, R3, o3, m1, m2, m3⟩
  have hl3 := R3.lows
  have R3 := Lib.hid R3
  go_wp2_with fail
  refine (S2 _).out.mono ?_
  rintro e w4 ⟨sb, sl, sr, sf, rfl, T4, o4, n1, n2, n3, n4⟩
  have hb4 := T4.blk
  have T4 := Lib.hid T4
  have HP := Lib.hid (show Calls Try.prog 72 #[.pointer (some ⟨sb, 0, none⟩), .int .i64 0, .string mineS] w4 _ from Str.h_push w4 sb sl sr sf 1 3 _ _ T4.out 0 0 mineS (by decide) (by decide) (fun m _ => Nat.zero_le m))
  unfold mineS at HP
  go_wp2_with fail
  refine HP.out.mono ?_
  rintro e w5 ⟨rfl, T5, o5⟩
  have hz5 := o5.size
  have hz4 := o4.size
  have hz3 := o3.size
  have hz2 := o2.size
  have hz1 := o1.size
  have hsep : ∀ i, Blk4 sb sl sr sf i → w3.heap.size ≤ i ∧ i < w4.heap.size := fun i hi => ⟨by unfold Blk4 at hi; omega, hb4 i hi⟩
  have P5 : Pair w5.heap.size b gl gr gf rb rg ru nr room w5 := by
    have q1 := ((L2.out.keep o3 (fun _ _ => id)).keep o4 (fun _ _ => id)).keep o5 (fun i hi hB => by have := hb2 i hi; have := hsep i hB; omega)
    have q2 := ((R3.out.rebase (base' := w3.heap.size) (Nat.le_refl _) (Nat.le_refl _)))
    have q3 : RaAt w4.heap.size w4 rb rg ru nr room (fun _ => .slice none 0 0) (fun _ => []) (fun _ => 0) := RaU.rebase (q2.only o4 (fun _ _ => id)) hz4 (Nat.le_refl _)
    have q4 : RaAt w5.heap.size w5 rb rg ru nr room (fun _ => .slice none 0 0) (fun _ => []) (fun _ => 0) := RaU.rebase (q3.only o5 (fun i hi hB => by have := hsep i hB; unfold RaB at hi; omega)) hz5 (Nat.le_refl _)
    exact ⟨_, _, _, q1, q4⟩
  have hap : Apart w5.heap.size b gl gr gf rb rg ru := fun i hi hB => by have := hb2 i hi; unfold RaB at hB; omega
  have hst : ∀ i, Blk4 sb sl sr sf i → ¬ BothB w5.heap.size b gl gr gf rb rg ru i := fun i hi hB => by
    have := hsep i hi
    rcases hB with hB | hB
    · have := hb2 i hB; omega
    · unfold RaB at hB; omega
  have o05 : Only (fun _ => False) w w5 := ((((o1.trans o2).trans o3).trans o4).trans' o5 (fun i hi hB => by have := hsep i hB; omega))
  have hnb : ∀ i, BothB w5.heap.size b gl gr gf rb rg ru i → w1.heap.size ≤ i := fun i hB => by
    rcases hB with hB | hB
    · unfold Blk4 at hB; omega
    · unfold RaB at hB; omega
  have T5 := Lib.hid T5
  have P5 := Lib.hid P5
  have HAP := Lib.hid hap
  have HST := Lib.hid hst
  have HNB := Lib.hid hnb
  have hz := o05.size
  have O05 := Lib.hid o05
  clear hap hst hnb hsep hb2 hb4 hl3 L2 R3 T4 HP S0 S1 S2 o1 o2 o3 o4 o5 k1 k2 k3 k4 m1 m2 m3 n1 n2 n3 n4 o05
  go_wp2_with fail
  go_loopw [15] (fun s wr => ∃ k : Nat, k ≤ len ∧ s = .int .i64 k ∧ Pair w5.heap.size b gl gr gf rb rg ru nr room wr ∧ Str.Lay wr sb sl sr sf 1 3 (upd (fun _ => []) 0 [0]) (upd (fun _ => ByteArray.empty) 0 ⟨#[109, 105, 110, 101]⟩) ∧ Only (fun _ => False) w wr)
    (fun s _ => len - (intOf s).toNat)
  case atStart => exact ⟨0, by omega, rfl, P5.out, T5.out, O05.out⟩
  case round =>
    clear P5 T5 O05
    obtain ⟨k, hk, rfl, hP, hT, ho⟩ := hrel
    by_cases hlt : k < len
    · obtain ⟨B, off, ha, hB, hcell⟩ := hs.at_ (by omega) (by decide)
      subst ha
      obtain ⟨r, hr⟩ : ∃ r, rows[k]? = some r := ⟨_, List.getElem?_eq_getElem (by rw [hs.1]; exact hlt)⟩
      obtain ⟨kind, _, rfl, hw0, hf⟩ := fits_i (hs.2.1 r (List.mem_of_getElem? hr))
      obtain ⟨row, _, rfl, hw1, hf⟩ := fits_i hf
      obtain ⟨num, _, rfl, hw2, hf⟩ := fits_i hf
      obtain ⟨v, _, rfl, hw3, hf⟩ := fits_i hf
      obtain rfl := fits_nil hf
      have r0 := ho.cell (hcell k _ hr 0 _ rfl) id
      have r1 := ho.cell (hcell k _ hr 1 _ rfl) id
      have r2 := ho.cell (hcell k _ hr 2 _ rfl) id
      have r3 := ho.cell (hcell k _ hr 3 _ rfl) id
      simp only [List.length_cons, List.length_nil, Nat.zero_add, Nat.reduceAdd, Nat.add_zero] at r0 r1 r2 r3
      have hbr : B < wr.heap.size := Nat.lt_of_lt_of_le hB ho.size
      have t1 : decide (k < len) = true := by simpa using hlt
      have i1 : (0 : Int) ≤ (k : Int) ∧ (k : Int) < (len : Int) := by omega
      have w1' : IntKind.i64.wrap ((k : Int) + 1) = (k : Int) + 1 := by rw [IntKind.wrap_i64]; omega
      have HD := Lib.hid (s_does HAP.out wr hP kind row num v)
      have HT := Lib.hid hT
      clear hcell hf hr hP hT
      go_wp2_with fail
      refine HD.out.mono ?_
      rintro e w6 ⟨rfl, p6, o6⟩
      have P6 := Lib.hid p6
      clear p6 HD
      go_wp2_with fail
      go_roundw
      case rel => exact ⟨k + 1, by omega, by go_num, P6.out, HT.out.keepO o6 HST.out, ho.trans' o6 (fun i hi hB => by have := HNB.out i hB; omega)⟩
      case measure => simp [intOf]; omega
    · have t1 : decide (k < len) = false := by simpa using hlt
      have HG := Lib.hid (Str.h_get wr sb sl sr sf 1 3 _ _ hT 0 0 (by decide) (by decide))
      have HL := Lib.hid (Str.h_len wr sb sl sr sf 1 3 _ _ hT 0 (by decide))
      have HK := Lib.hid (s_looks wr hP)
      simp only [upd_same, List.length_cons, List.length_nil, Nat.zero_add] at HG HL
      clear hP hT
      go_wp2_with fail
      refine HG.out.mono ?_
      rintro e w6 ⟨rfl, rfl⟩
      go_wp2_with fail
      refine HL.out.mono ?_
      rintro e w7 ⟨rfl, rfl⟩
      go_wp2_with fail
      refine HK.out.mono ?_
      rintro e w8 ⟨rfl, o8⟩
      go_wp2_with fail
      go_returns
      exact ⟨rfl, ho.trans o8⟩

theorem slotsDoes_walk (w : World) (x0 : Int) (wf0 : (Lit.int .i64 x0).wf = true) (x1 : Int) (wf1 : (Lit.int .i64 x1).wf = true) (a : Option Addr) (len cap : Nat) (rows : List (List Value)) (hs : SliceIn w a len cap [.i .i64, .i .i64, .i .i64, .i .i64] rows) (hlen : len * 32 ≤ 140737488351232) :
    Calls Try.prog 13 #[.int .i64 x0, .int .i64 x1, .slice a len cap] w fun e w' => e = .returned (.bool true) ∧ Below w.heap.size w w' := by
  by_cases h : x0 < 1 ∨ x0 > 65536 ∨ x1 < 0 ∨ x1 > 65536
  · exact (slotsDoes_no w x0 x1 h a len cap).mono fun _ _ ⟨he, ho⟩ => ⟨he, ho.below⟩
  · obtain ⟨nr, rfl⟩ : ∃ k : Nat, x0 = k := ⟨x0.toNat, by omega⟩
    obtain ⟨room, rfl⟩ : ∃ k : Nat, x1 = k := ⟨x1.toNat, by omega⟩
    exact (slotsDoes_yes w nr room (by omega) (by omega) (by omega) a len cap rows hs hlen).mono fun _ _ ⟨he, ho⟩ => ⟨he, ho.below⟩
end Go.Proofs.Ytiiflgihjnlmcaa
