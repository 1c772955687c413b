/- Decimal: the walk of DecimalPlaces. Condition: the number is of 64 bits; FormatInt's table is laid. -/
import Derived.Test.YtkpndnjnckaanaaDoorDm7
namespace Go.Proofs.YtkpndnjnckaanaaDoor
set_option linter.unusedVariables false
set_option linter.unusedSimpArgs false
open Go.RowKit Go.Shelf

theorem print_len (n : Int) (hn : fits64 n = true) (k : Nat) (hk : k ≤ 9) : (printC n k).length ≤ 40 := by
  have h : -9223372036854775808 ≤ n ∧ n ≤ 9223372036854775807 := of_decide_eq_true hn
  have hd := dec_len n.natAbs (by omega)
  have hs : (sgnL n).length ≤ 1 := by unfold sgnL; split <;> simp
  unfold printC
  by_cases h0 : k = 0
  · rw [if_pos h0, itoa_eq, List.length_append]; omega
  · rw [if_neg h0]
    have hL : (padD n.natAbs (k + 1)).length = max (k + 1) (Lib.decDigits n.natAbs).length := by unfold padD; simp; omega
    simp only [List.length_append, List.length_cons, List.length_take, List.length_drop]
    omega
theorem printI_nat (n : Int) (k : Nat) (h : k ≤ 9) : printI n (k : Int) = (printC n k, 0) := if_pos (by omega)

set_option maxRecDepth 100000 in
set_option maxHeartbeats 4000000 in
theorem decimalPlaces_walk (n : Int) (hn : fits64 n = true) (p : Int) (w : World) (ht : Tb w) : Calls Tryd.prog 6 #[.int .i64 n, .int .i64 p] w fun e w' => e = .returned (.bool true) ∧ Gw w w' := by
  have HWK := Lib.hid (d_works w ht)
  by_cases h1 : p < 1
  · have t1 : decide (p < 1) = true := decide_eq_true h1
    clear h1 ht
    go_enter Tryd.func6, Tryd.ntmps6
    go_wp2_with fail
    refine HWK.out.mono ?_
    rintro e w1 ⟨rfl, o1⟩
    have O1 := Lib.hid o1
    clear o1
    go_wp2_with fail
    go_returns
    exact ⟨rfl, O1.out⟩
  have t1 : decide (p < 1) = false := decide_eq_false h1
  by_cases h2 : 9 ≤ p
  · have t2 : decide (9 ≤ p) = true := decide_eq_true h2
    clear h1 ht h2
    go_enter Tryd.func6, Tryd.ntmps6
    go_wp2_with fail
    refine HWK.out.mono ?_
    rintro e w1 ⟨rfl, o1⟩
    have O1 := Lib.hid o1
    clear o1
    go_wp2_with fail
    go_returns
    exact ⟨rfl, O1.out⟩
  have t2 : decide (9 ≤ p) = false := decide_eq_false h2
  obtain ⟨k, rfl⟩ : ∃ k : Nat, p = k := ⟨p.toNat, by omega⟩
  have hk : k ≤ 9 := by omega
  have HPR := fun W (h : Tb W) => d_print n k hn W h
  simp only [printI_nat _ _ hk] at HPR
  have hlen := print_len n hn k hk
  have hrd := print_read n k 1
  rw [Int.pow_succ, Int.pow_zero, Int.one_mul] at hrd
  have hls := print_less n k (by omega)
  obtain ⟨P, hP⟩ : ∃ P, P = printC n k := ⟨_, rfl⟩
  rw [← hP] at HPR hlen hrd hls
  have HPR := fun W h => Lib.hid (HPR W h)
  have HMU := fun W => f_mul10 n hn W
  unfold tellV at HMU
  obtain ⟨v, hv⟩ : ∃ v, v = n * 10 := ⟨_, rfl⟩
  rw [← hv] at HMU hrd
  obtain ⟨f, hf⟩ : ∃ f, fits64 v = f := ⟨_, rfl⟩
  rw [hf] at HMU hrd
  have HT := Lib.hid ht
  have ww1 : IntKind.i64.wrap ((k : Int) + 1) = (k : Int) + 1 := by rw [IntKind.wrap_i64]; omega
  have ww2 : IntKind.i64.wrap ((k : Int) - 1) = (k : Int) - 1 := by rw [IntKind.wrap_i64]; omega
  have ep1 : ∀ l, parseI l ((k : Int) + 1) = parseC l (k + 1) := fun l => parseI_nat l (k + 1) (by omega)
  have ep2 : ∀ l, parseI l ((k : Int) - 1) = parseC l (k - 1) := fun l => by rw [show (k : Int) - 1 = ((k - 1 : Nat) : Int) by omega]; exact parseI_nat l (k - 1) (by omega)
  have EP := Lib.hid (⟨ep1, ep2⟩ : _ ∧ _)
  obtain ⟨b, hb⟩ : ∃ b, ((k : Int) == 1) = b := ⟨_, rfl⟩
  have HLS := Lib.hid hls
  have hvv : (v != v) = false := by simp
  have HB := Lib.hid (show k = 1 ↔ b = true by rw [← hb]; simp; omega)
  clear h1 h2 ht hP hv hf hn hk ep1 ep2 hls
  cases f with
  | true =>
    simp only [if_true] at HMU hrd
    have HMU := fun W => Lib.hid (HMU W)
    have HRD := Lib.hid hrd
    clear hrd
    cases b with
    | true =>
      have HK1 := Lib.hid (HB.out.2 rfl)
      go_enter Tryd.func6, Tryd.ntmps6
      go_wp2_with fail
      refine HWK.out.mono ?_
      rintro e w1 ⟨rfl, o1⟩
      have O1 := Lib.hid o1
      clear o1
      go_wp2_with fail
      refine ((HPR _ (HT.out.keep O1.out)).out).mono ?_
      rintro e w2 ⟨r, rfl, hr, o2⟩
      have O2 := Lib.hid (O1.out.trans o2)
      have hrs := size_list r
      rw [hr] at hrs
      have HP1 := fun W => d_parse r ((k : Int) + 1) (by omega) W
      have HP2 := fun W => d_parse r ((k : Int) - 1) (by omega) W
      rw [hr, EP.out.1, HRD.out] at HP1
      rw [hr, EP.out.2, HLS.out.1, if_pos HK1.out] at HP2
      simp only at HP1 HP2
      have HP1 := fun W => Lib.hid (HP1 W)
      have HP2 := fun W => Lib.hid (HP2 W)
      have h2 := HLS.out.2
      have ww3 : IntKind.i64.wrap ((r.size : Int) - 1) = (r.size : Int) - 1 := by rw [IntKind.wrap_i64]; omega
      have ww4 : IntKind.i64.wrap ((r.size : Int) - 2) = (P.length : Int) - 2 := by rw [IntKind.wrap_i64]; omega
      have hee : ((P.length : Int) - 2 == (P.length : Int) - 2) = true := by simp
      clear hr o2 hrs hlen h2
      go_wp2_with fail
      refine (HP1 _).out.mono ?_
      rintro e w3 ⟨rfl, o3⟩
      have O3 := Lib.hid (O2.out.trans o3)
      clear o3
      go_wp2_with fail
      refine (HMU _).out.mono ?_
      rintro e w4 ⟨rfl, rfl⟩
      go_wp2_with fail
      refine (HP2 _).out.mono ?_
      rintro e w4 ⟨rfl, o4⟩
      have O4 := Lib.hid (O3.out.trans o4)
      clear o4
      go_wp2_with fail
      go_returns
      exact ⟨rfl, O4.out⟩
    | false =>
      have HK1 := Lib.hid (show ¬ k = 1 from fun h => absurd (HB.out.1 h) (by decide))
      go_enter Tryd.func6, Tryd.ntmps6
      go_wp2_with fail
      refine HWK.out.mono ?_
      rintro e w1 ⟨rfl, o1⟩
      have O1 := Lib.hid o1
      clear o1
      go_wp2_with fail
      refine ((HPR _ (HT.out.keep O1.out)).out).mono ?_
      rintro e w2 ⟨r, rfl, hr, o2⟩
      have O2 := Lib.hid (O1.out.trans o2)
      have hrs := size_list r
      rw [hr] at hrs
      have HP1 := fun W => d_parse r ((k : Int) + 1) (by omega) W
      have HP2 := fun W => d_parse r ((k : Int) - 1) (by omega) W
      rw [hr, EP.out.1, HRD.out] at HP1
      rw [hr, EP.out.2, HLS.out.1, if_neg HK1.out] at HP2
      simp only at HP1 HP2
      have HP1 := fun W => Lib.hid (HP1 W)
      have HP2 := fun W => Lib.hid (HP2 W)
      have h2 := HLS.out.2
      have ww3 : IntKind.i64.wrap ((r.size : Int) - 1) = (P.length : Int) - 1 := by rw [IntKind.wrap_i64]; omega
      have hee : ((P.length : Int) - 1 == (P.length : Int) - 1) = true := by simp
      clear hr o2 hrs hlen h2
      go_wp2_with fail
      refine (HP1 _).out.mono ?_
      rintro e w3 ⟨rfl, o3⟩
      have O3 := Lib.hid (O2.out.trans o3)
      clear o3
      go_wp2_with fail
      refine (HMU _).out.mono ?_
      rintro e w4 ⟨rfl, rfl⟩
      go_wp2_with fail
      refine (HP2 _).out.mono ?_
      rintro e w4 ⟨rfl, o4⟩
      have O4 := Lib.hid (O3.out.trans o4)
      clear o4
      go_wp2_with fail
      go_returns
      exact ⟨rfl, O4.out⟩
  | false =>
    simp only [Bool.false_eq_true, if_false] at HMU hrd
    have HMU := fun W => Lib.hid (HMU W)
    have HRD := Lib.hid hrd
    clear hrd
    cases b with
    | true =>
      have HK1 := Lib.hid (HB.out.2 rfl)
      go_enter Tryd.func6, Tryd.ntmps6
      go_wp2_with fail
      refine HWK.out.mono ?_
      rintro e w1 ⟨rfl, o1⟩
      have O1 := Lib.hid o1
      clear o1
      go_wp2_with fail
      refine ((HPR _ (HT.out.keep O1.out)).out).mono ?_
      rintro e w2 ⟨r, rfl, hr, o2⟩
      have O2 := Lib.hid (O1.out.trans o2)
      have hrs := size_list r
      rw [hr] at hrs
      have HP1 := fun W => d_parse r ((k : Int) + 1) (by omega) W
      have HP2 := fun W => d_parse r ((k : Int) - 1) (by omega) W
      rw [hr, EP.out.1, HRD.out] at HP1
      rw [hr, EP.out.2, HLS.out.1, if_pos HK1.out] at HP2
      simp only at HP1 HP2
      have HP1 := fun W => Lib.hid (HP1 W)
      have HP2 := fun W => Lib.hid (HP2 W)
      have h2 := HLS.out.2
      have ww3 : IntKind.i64.wrap ((r.size : Int) - 1) = (r.size : Int) - 1 := by rw [IntKind.wrap_i64]; omega
      have ww4 : IntKind.i64.wrap ((r.size : Int) - 2) = (P.length : Int) - 2 := by rw [IntKind.wrap_i64]; omega
      have hee : ((P.length : Int) - 2 == (P.length : Int) - 2) = true := by simp
      clear hr o2 hrs hlen h2
      go_wp2_with fail
      refine (HP1 _).out.mono ?_
      rintro e w3 ⟨rfl, o3⟩
      have O3 := Lib.hid (O2.out.trans o3)
      clear o3
      go_wp2_with fail
      refine (HMU _).out.mono ?_
      rintro e w4 ⟨rfl, rfl⟩
      go_wp2_with fail
      refine (HP2 _).out.mono ?_
      rintro e w4 ⟨rfl, o4⟩
      have O4 := Lib.hid (O3.out.trans o4)
      clear o4
      go_wp2_with fail
      go_returns
      exact ⟨rfl, O4.out⟩
    | false =>
      have HK1 := Lib.hid (show ¬ k = 1 from fun h => absurd (HB.out.1 h) (by decide))
      go_enter Tryd.func6, Tryd.ntmps6
      go_wp2_with fail
      refine HWK.out.mono ?_
      rintro e w1 ⟨rfl, o1⟩
      have O1 := Lib.hid o1
      clear o1
      go_wp2_with fail
      refine ((HPR _ (HT.out.keep O1.out)).out).mono ?_
      rintro e w2 ⟨r, rfl, hr, o2⟩
      have O2 := Lib.hid (O1.out.trans o2)
      have hrs := size_list r
      rw [hr] at hrs
      have HP1 := fun W => d_parse r ((k : Int) + 1) (by omega) W
      have HP2 := fun W => d_parse r ((k : Int) - 1) (by omega) W
      rw [hr, EP.out.1, HRD.out] at HP1
      rw [hr, EP.out.2, HLS.out.1, if_neg HK1.out] at HP2
      simp only at HP1 HP2
      have HP1 := fun W => Lib.hid (HP1 W)
      have HP2 := fun W => Lib.hid (HP2 W)
      have h2 := HLS.out.2
      have ww3 : IntKind.i64.wrap ((r.size : Int) - 1) = (P.length : Int) - 1 := by rw [IntKind.wrap_i64]; omega
      have hee : ((P.length : Int) - 1 == (P.length : Int) - 1) = true := by simp
      clear hr o2 hrs hlen h2
      go_wp2_with fail
      refine (HP1 _).out.mono ?_
      rintro e w3 ⟨rfl, o3⟩
      have O3 := Lib.hid (O2.out.trans o3)
      clear o3
      go_wp2_with fail
      refine (HMU _).out.mono ?_
      rintro e w4 ⟨rfl, rfl⟩
      go_wp2_with fail
      refine (HP2 _).out.mono ?_
      rintro e w4 ⟨rfl, o4⟩
      have O4 := Lib.hid (O3.out.trans o4)
      clear o4
      go_wp2_with fail
      go_returns
      exact ⟨rfl, O4.out⟩
end Go.Proofs.YtkpndnjnckaanaaDoor
