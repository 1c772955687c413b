/- Decimal: Print. Conditions: the number is of 64 bits; FormatInt's table is laid. -/
import Derived.Test.YtkpndnjnckaanaaDoorDm4
import Derived.BigQuiet
namespace Go.Proofs.YtkpndnjnckaanaaDoor
set_option linter.unusedVariables false
set_option linter.unusedSimpArgs false
open Go.RowKit Go.Shelf

theorem itoa_parts (n : Int) : minusOf (Lib.itoa n) = decide (n < 0) ∧ restOf (Lib.itoa n) = Lib.decDigits n.natAbs := by
  rw [itoa_eq]
  unfold sgnL
  by_cases hn : n < 0
  · rw [if_pos hn]
    exact ⟨by simp [minusOf, hn], rfl⟩
  · rw [if_neg hn]
    have hm : minusOf (Lib.decDigits n.natAbs) = false := by
      obtain ⟨h1, h2, _⟩ := dec_digits n.natAbs
      cases hq : Lib.decDigits n.natAbs with
      | nil => exact absurd hq h2
      | cons b t =>
        have := h1 b (by rw [hq]; simp)
        show (b == 45) = false
        refine beq_eq_false_iff_ne.2 fun h => ?_
        rw [h] at this; exact absurd this (by decide)
    simp only [List.nil_append]
    exact ⟨by simp [hm, hn], by unfold restOf; rw [hm]; rfl⟩
theorem dec_len (u : Nat) (h : u < 18446744073709551616) : 1 ≤ (Lib.decDigits u).length ∧ (Lib.decDigits u).length ≤ 20 := by
  rw [Lib.decDigits_length]
  refine ⟨Lib.nDigits_pos u, ?_⟩
  by_cases h0 : u = 0
  · subst h0; rw [Lib.nDigits_small (by omega)]; omega
  · have := Lib.numDigits_eq u (by omega) h
    split at this <;> omega
theorem list_app (s t : ByteArray) : (s ++ t).data.toList = s.data.toList ++ t.data.toList := by simp
theorem list_ext (s : ByteArray) (i j : Nat) : (s.extract i j).data.toList = (s.data.toList.take j).drop i := by
  rw [ByteArray.data_extract, Array.toList_extract, List.extract_eq_drop_take', List.drop_take]

/-- A text, and new blocks alone. -/
structure TxP (Q : List UInt8) (w : World) (v : Value) (wx : World) : Prop where
  ex : ∃ q : ByteArray, v = .string q ∧ q.data.toList = Q ∧ Gw w wx
set_option maxRecDepth 100000 in
set_option maxHeartbeats 4000000 in
theorem d_print (n p : Int) (hn : fits64 n = true) (w : World) (ht : Tb w) : Calls Tryd.prog 10 #[.int .i64 n, .int .i64 p] w fun e w' => ∃ r : ByteArray, e = .returned (.tuple #[.string r, .int .i64 (printI n p).2]) ∧ r.data.toList = (printI n p).1 ∧ Gw w w' := by
  have HM := fun W => Lib.hid (d_may p W)
  have HF := Lib.hid (d_fmt n hn w ht)
  have hn' : -9223372036854775808 ≤ n ∧ n ≤ 9223372036854775807 := of_decide_eq_true hn
  by_cases hp : 0 ≤ p ∧ p ≤ 9
  case neg =>
    have e : printI n p = ([], 1) := if_neg hp
    rw [e]
    simp only
    rw [decide_eq_false hp] at HM
    clear hp e hn hn' ht
    go_enter Tryd.func10, Tryd.ntmps10
    go_wp2_with fail
    refine (HM _).out.mono ?_
    rintro e w1 ⟨rfl, rfl⟩
    go_wp2_with fail
    go_returns
    exact ⟨_, rfl, rfl, Gw.refl _⟩
  case pos =>
  rw [decide_eq_true hp] at HM
  have e : printI n p = (printC n p.toNat, 0) := if_pos hp
  rw [e]
  simp only
  obtain ⟨k, rfl⟩ : ∃ k : Nat, p = k := ⟨p.toNat, by omega⟩
  have ek : ((k : Int)).toNat = k := rfl
  rw [ek]
  obtain ⟨i1, i2⟩ := itoa_parts n
  have hdl := dec_len n.natAbs (by omega)
  obtain ⟨D, hD⟩ : ∃ D, D = Lib.decDigits n.natAbs := ⟨_, rfl⟩
  rw [← hD] at i2 hdl
  by_cases h0 : k = 0
  · have t0 : ((k : Int) == 0) = true := by simp; omega
    have ep : printC n k = Lib.itoa n := by unfold printC; rw [if_pos h0]
    rw [ep]
    have HX := Lib.hid h0
    clear hp e hn hn' ht i1 i2 hdl hD h0 ep
    go_enter Tryd.func10, Tryd.ntmps10
    go_wp2_with fail
    refine (HM _).out.mono ?_
    rintro e w1 ⟨rfl, rfl⟩
    go_wp2_with fail
    refine HF.out.mono ?_
    rintro e w1 ⟨r, rfl, hr, o1⟩
    have HR := Lib.hid hr
    clear hr
    go_wp2_with fail
    go_returns
    exact ⟨_, rfl, HR.out, o1⟩
  · have t0 : ((k : Int) == 0) = false := by simp; omega
    have ep : printC n k = sgnL n ++ ((padD n.natAbs (k + 1)).take ((padD n.natAbs (k + 1)).length - k) ++ 46 :: (padD n.natAbs (k + 1)).drop ((padD n.natAbs (k + 1)).length - k)) := by unfold printC; rw [if_neg h0]
    have hpl := padD_props n.natAbs (k + 1)
    have hpd : padD n.natAbs (k + 1) = List.replicate (k + 1 - D.length) 48 ++ D := by rw [hD]; rfl
    rw [ep]
    obtain ⟨Q, hQ⟩ : ∃ Q, Q = padD n.natAbs (k + 1) := ⟨_, rfl⟩
    rw [← hQ] at hpl hpd ⊢
    have HX := Lib.hid (⟨hdl, hpl, hpd, i1, i2⟩ : _ ∧ _ ∧ _ ∧ _ ∧ _)
    clear e hn hn' ht hdl hpl hpd hD h0 ep hQ
    have hk9 : k ≤ 9 := by omega
    clear hp
    go_enter Tryd.func10, Tryd.ntmps10
    go_wp2_with fail
    refine (HM _).out.mono ?_
    rintro e w1 ⟨rfl, rfl⟩
    go_wp2_with fail
    refine HF.out.mono ?_
    rintro e w1 ⟨r, rfl, hr, o1⟩
    have HCUT := fun W => Lib.hid (d_cut r W)
    rw [hr, i1, i2] at HCUT
    obtain ⟨m, hm⟩ : ∃ m, decide (n < 0) = m := ⟨_, rfl⟩
    rw [hm] at HCUT
    have HMM := Lib.hid hm
    have HO1 := Lib.hid o1
    clear hr i1 i2 o1 hm
    go_wp2_with fail
    refine (HCUT _).out.mono ?_
    rintro e w2 ⟨q, rfl, hq, rfl⟩
    have hsz := size_list q
    rw [hq] at hsz
    have hdl := HX.out.1
    obtain ⟨d, hd⟩ : ∃ d, d = q.size := ⟨_, rfl⟩
    rw [← hd] at hsz
    have ww1 : IntKind.i64.wrap ((k : Int) + 1) = (k : Int) + 1 := by rw [IntKind.wrap_i64]; omega
    have ww2 : IntKind.i64.wrap ((k : Int) + 1 - (q.size : Int)) = (k : Int) + 1 - (d : Int) := by rw [IntKind.wrap_i64]; omega
    have HQ := Lib.hid (⟨hq, hd, hsz⟩ : _ ∧ _ ∧ _)
    clear hq hsz hd
    obtain ⟨tb, htb⟩ : ∃ tb, decide ((d : Int) < (k : Int) + 1) = tb := ⟨_, rfl⟩
    have HTB := Lib.hid htb
    go_upto_region 8 with fail
    go_upto_if 30 with fail
    clear htb
    go_cut [7] from 31 to 34 (fun s7 wx => TxP Q w s7 wx)
    case first =>
      cases tb with
      | true =>
        have hl : (d : Int) < (k : Int) + 1 := of_decide_eq_true HTB.out
        obtain ⟨c, hc⟩ : ∃ c : Nat, c = k + 1 - d := ⟨_, rfl⟩
        have ec : (k : Int) + 1 - (d : Int) = (c : Int) := by omega
        have HR := fun W => Lib.hid (d_rep c (by omega) W)
        rw [← ec] at HR
        have HCC := Lib.hid hc
        have hcb : c ≤ 10 := by omega
        clear hl hc ec
        go_wp2_with fail
        refine (HR _).out.mono ?_
        rintro e w3 ⟨z, rfl, hz, o3⟩
        have HZ := Lib.hid hz
        have hzs := size_list z
        rw [hz, List.length_replicate] at hzs
        have hds := HQ.out.2.1
        have hsum : ¬ (z.size + q.size > 9223372036854775807) := by have := HQ.out.2.2; omega
        clear hz hzs hds
        go_wp2_with fail
        go_meet
        refine ⟨⟨_, rfl, ?_, HO1.out.trans o3⟩⟩
        rw [list_app, HZ.out, HQ.out.1, HX.out.2.2.1, HCC.out, HQ.out.2.2]
      | false =>
        have HL := Lib.hid (of_decide_eq_false HTB.out)
        go_wp2_with fail
        go_meet
        refine ⟨⟨_, rfl, ?_, HO1.out⟩⟩
        rw [HQ.out.1, HX.out.2.2.1, show k + 1 - D.length = 0 by have := HL.out; have := HQ.out.2.2; omega]
        rfl
    case rest =>
    obtain ⟨⟨q', rfl, hq', o4⟩⟩ := hcut
    obtain ⟨W4, hW4⟩ : ∃ W4, W4 = wc := ⟨_, rfl⟩
    rw [← hW4] at o4 ⊢
    clear hW4
    have hsz := size_list q'
    rw [hq'] at hsz
    have hpl := HX.out.2.1.2.1
    have hdl2 : Q.length ≤ 30 := by rw [HX.out.2.2.1]; simp; omega
    obtain ⟨g, hg⟩ : ∃ g, g = Q.length - k := ⟨_, rfl⟩
    have ww3 : IntKind.i64.wrap ((q'.size : Int) - (k : Int)) = (g : Int) := by rw [IntKind.wrap_i64]; omega
    have i1 : (0 : Int) ≤ (g : Int) ∧ (g : Int) ≤ (q'.size : Int) := by omega
    have i2 : g ≤ q'.size := by omega
    have i3 : q'.size ≤ 30 := by omega
    have HG := Lib.hid (⟨hq', hsz, hg, o4⟩ : _ ∧ _ ∧ _ ∧ _)
    clear hq' hsz hg o4 hdl2 hpl
    go_upto_region 11 with fail
    go_quiet (fail)
    obtain ⟨u, hu⟩ : ∃ u, q'.extract 0 g ++ ({ data := #[46] } : ByteArray) ++ q'.extract g q'.size = u := ⟨_, rfl⟩
    rw [hu]
    have hul : u.data.toList = Q.take g ++ 46 :: Q.drop g := by
      rw [← hu, list_app, list_app, list_ext, list_ext, HG.out.1, HG.out.2.1, List.take_length, List.drop_zero, List.append_assoc]
      rfl
    have hus := size_list u
    have hus2 : u.size ≤ 40 := by
      have h1 := congrArg List.length hul
      rw [List.length_append, List.length_cons, List.length_take, List.length_drop] at h1
      have := HG.out.2.1
      omega
    have HUL := Lib.hid hul
    clear hu hul hus
    cases m with
    | true =>
      have hsum : ¬ (({ data := #[45] } : ByteArray).size + u.size > 9223372036854775807) := by have : ({ data := #[45] } : ByteArray).size = 1 := rfl; omega
      go_wp2_with fail
      go_returns
      refine ⟨_, rfl, ?_, (HG.out.2.2.2).trans (Go.Joins.below_draws _ _ _)⟩
      have hn0 : n < 0 := of_decide_eq_true HMM.out
      rw [list_app, HUL.out, ← HG.out.2.2.1]
      unfold sgnL
      rw [if_pos hn0]
    | false =>
      go_wp2_with fail
      go_returns
      refine ⟨_, rfl, ?_, (HG.out.2.2.2).trans (Go.Joins.below_draws _ _ _)⟩
      have hn0 : ¬ n < 0 := of_decide_eq_false HMM.out
      rw [HUL.out, ← HG.out.2.2.1]
      unfold sgnL
      rw [if_neg hn0, List.nil_append]
end Go.Proofs.YtkpndnjnckaanaaDoor
