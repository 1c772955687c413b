/- Decimal, the document's side: Digits, Print. Condition: the number is of 64 bits. -/
import Derived.Test.YtkpndnjnckaanaaDoorDmA
import Derived.Test.YtkpndnjnckaanaaDoorDm8
import Derived.Lib.SlBytesConst
import Derived.WalkSpells
import Derived.WalkLawsBesides
namespace Go.Proofs.YtkpndnjnckaanaaDoor
set_option linter.unusedVariables false
set_option linter.unusedSimpArgs false
open Go.RowKit Go.Shelf

theorem run_one {W : World} {g : Nat} {x : Int} (b : UInt8) (hx : x = ((b.toNat : Nat) : Int)) (hc : W.cell? ⟨g, 0, none⟩ = some (.int .u8 x)) :
    (convert 55 9 (.slice (some ⟨g, 0, none⟩) 1 1)).run Tryd.prog W = .ok (.string ⟨#[b]⟩) W := by
  have h := run_convert_bytes_back (P := Tryd.prog) W 55 9 5 ⟨g, 0, none⟩ 1 [b] (by kernel_rfl) (by kernel_rfl) (by kernel_rfl) (fun j hj => by
    obtain rfl : j = 0 := by simpa using hj
    rw [show (⟨g, 0, none⟩ : Addr).add 0 = ⟨g, 0, none⟩ from rfl, hc, hx]
    rfl)
  exact h
theorem Gw.drew {w W : World} (h : Gw w W) : Gw w W.drew := h.drewN 1
theorem Gw.alloc {w W : World} (h : Gw w W) (o : Obj) : Gw w (W.alloc o) := Below.alloc h (Below.size h) o
/-- A text, and new blocks alone. -/
def StrP (L : List UInt8) (w : World) (e : Ending) (w' : World) : Prop := ∃ r : ByteArray, e = .returned (.string r) ∧ r.data.toList = L ∧ Gw w w'
def mu (n : Int) : Nat := 2 * n.natAbs + if n < 0 then 1 else 0
theorem dig_neg {n : Int} (h : n < 0) : Lib.itoa n = 45 :: Lib.itoa (-n) := by
  rw [itoa_eq, itoa_eq]
  unfold sgnL
  rw [if_pos h, if_neg (by omega), Int.natAbs_neg]
  rfl
theorem itoa_small {r : ByteArray} {n : Int} (h : r.data.toList = Lib.itoa n) (hn : n.natAbs < 18446744073709551616) : r.size ≤ 30 := by
  have h1 := size_list r
  rw [h, itoa_eq] at h1
  have h2 := (dec_len n.natAbs hn).2
  have h3 : (sgnL n).length ≤ 1 := by unfold sgnL; split <;> simp
  rw [List.length_append] at h1
  omega
theorem itoa_room {r : ByteArray} {n : Int} (b : UInt8) (h : r.data.toList = Lib.itoa n) (hn : n.natAbs < 18446744073709551616) : ¬ (r.size + ({ data := #[b] } : ByteArray).size > 9223372036854775807) := by
  have h1 := itoa_small h hn
  have : ({ data := #[b] } : ByteArray).size = 1 := rfl
  omega
set_option maxRecDepth 100000 in
theorem r_digits : ∀ (k : Nat) (n : Int), mu n < k → fits64 n = true → ∀ w, Calls Tryd.prog 24 #[.int .i64 n] w (StrP (Lib.itoa n) w) := by
  intro k
  induction k with
  | zero => intro n hk; exact absurd hk (Nat.not_lt_zero _)
  | succ k ih =>
  intro n hk hn w
  have hn' : -9223372036854775808 ≤ n ∧ n ≤ 9223372036854775807 := of_decide_eq_true hn
  by_cases h0 : n < 0
  · have t0 : decide (n < 0) = true := decide_eq_true h0
    by_cases h1 : -10 < n
    · have t1 : decide (-10 < n) = true := decide_eq_true h1
      obtain ⟨v, hv⟩ : ∃ v, v = -n := ⟨_, rfl⟩
      have ww : IntKind.i64.wrap (-n) = v := by rw [IntKind.wrap_i64]; omega
      have HR := fun W => Lib.hid (ih v (by unfold mu at hk ⊢; rw [if_pos h0] at hk; rw [if_neg (by omega)]; omega) (decide_eq_true (by omega)) W)
      have HD := Lib.hid (dig_neg h0)
      rw [← hv] at HD
      have hv64 : v.natAbs < 18446744073709551616 := by omega
      clear h0 h1 hv hk hn ih
      go_enter Tryd.func24, Tryd.ntmps24
      go_wp2_with fail
      refine (HR _).out.mono ?_
      rintro e w1 ⟨r, rfl, hr, o1⟩
      have hrs : r.size ≤ 30 := by
        have h1 := size_list r
        rw [hr, itoa_eq] at h1
        have h2 := (dec_len v.natAbs hv64).2
        have h3 : (sgnL v).length ≤ 1 := by unfold sgnL; split <;> simp
        rw [List.length_append] at h1
        omega
      have hsum : ¬ (({ data := #[45] } : ByteArray).size + r.size > 9223372036854775807) := by have : ({ data := #[45] } : ByteArray).size = 1 := rfl; omega
      have HH := Lib.hid (⟨hr, o1⟩ : _ ∧ _)
      clear hr o1
      go_wp2_with fail
      go_returns
      refine ⟨_, rfl, ?_, HH.out.2⟩
      rw [list_app, HH.out.1, HD.out]
      rfl
    · have t1 : decide (-10 < n) = false := decide_eq_false h1
      obtain ⟨m, hm⟩ : ∃ m : Nat, n = -(m : Int) := ⟨n.natAbs, by omega⟩
      have hq : n.tdiv 10 = -((m / 10 : Nat) : Int) := by rw [hm, Int.neg_tdiv, Int.tdiv_eq_ediv_of_nonneg (by omega)]; rfl
      have hr : n.tmod 10 = -((m % 10 : Nat) : Int) := by rw [hm, Int.neg_tmod, Int.tmod_eq_emod_of_nonneg (by omega)]; rfl
      obtain ⟨q, hqe⟩ : ∃ q : Int, q = -((m / 10 : Nat) : Int) := ⟨_, rfl⟩
      obtain ⟨d, hd⟩ : ∃ d, d = m % 10 := ⟨_, rfl⟩
      rw [← hqe] at hq
      rw [← hd] at hr
      have HR := fun W => Lib.hid (ih q (by unfold mu at hk ⊢; rw [if_pos (by omega)] at hk ⊢; omega) (decide_eq_true (by omega)) W)
      have hd9 : d ≤ 9 := by omega
      obtain ⟨x, hx⟩ : ∃ x : Int, x = 48 + (d : Int) := ⟨_, rfl⟩
      have ww1 : IntKind.i64.wrap q = q := by rw [IntKind.wrap_i64]; omega
      have ww2 : IntKind.i64.wrap (48 - -(d : Int)) = x := by rw [IntKind.wrap_i64]; omega
      have ww2' : IntKind.i64.wrap (48 + (d : Int)) = x := by rw [IntKind.wrap_i64]; omega
      have ww3 : IntKind.u8.wrap x = x := by rw [IntKind.wrap_u8]; omega
      obtain ⟨b, hb⟩ : ∃ b, b = UInt8.ofNat (48 + d) := ⟨_, rfl⟩
      have hRO := fun (W : World) (g : Nat) (hc : W.cell? ⟨g, 0, none⟩ = some (.int .u8 x)) => run_one b (by rw [hb, digit_of (by omega), hx]; omega) hc
      have hql : q.natAbs < 18446744073709551616 := by omega
      have HB := Lib.hid (show Lib.itoa n = Lib.itoa q ++ [b] by
        rw [itoa_eq, itoa_eq, hb, hd]
        unfold sgnL
        rw [if_pos h0, if_pos (by omega), Lib.decDigits, dif_neg (by omega), show q.natAbs = n.natAbs / 10 by omega, show m = n.natAbs by omega]
        rfl)
      clear hqe hd hx hb hm ih hk hn h0 h1 hn'
      go_enter Tryd.func24, Tryd.ntmps24
      go_wp2_with fail
      go_region_with (go_at_call 24; refine (HR _).out.mono ?_; rintro e w1 ⟨r, rfl, hr1, o1⟩; have hc1 := fun h => Below.cell (p := ⟨w.heap.size, 0, none⟩) o1 h; have hsum := itoa_room b hr1 hql; have HH := Lib.hid (⟨hr1, o1⟩ : _ ∧ _); clear hr1 o1)
      all_goals
        go_wp2_with fail
        go_returns
        refine ⟨_, rfl, ?_, ?_⟩
        · rw [list_app, HH.out.1, HB.out]
        · repeat (first | exact Gw.refl _ | refine Gw.drew ?_ | refine Gw.drewN ?_ _ | refine Gw.alloc ?_ _ | refine Gw.trans ?_ HH.out.2)
  · have t0 : decide (n < 0) = false := decide_eq_false h0
    obtain ⟨d, hd⟩ : ∃ d : Nat, d = n.natAbs % 10 := ⟨_, rfl⟩
    have hd2 : (d : Int) = n % 10 := by omega
    obtain ⟨b, hb⟩ : ∃ b, b = UInt8.ofNat (48 + d) := ⟨_, rfl⟩
    have hRO := fun (W : World) (hc : W.cell? ⟨w.heap.size, 0, none⟩ = some (.int .u8 (48 + n % 10))) => run_one b (by rw [hb, digit_of (by omega)]; omega) hc
    have hn0 : 0 ≤ n := by omega
    have HB := Lib.hid (show Lib.itoa n = (if 10 ≤ n then Lib.itoa (n / 10) else []) ++ [b] by
      have e : ∀ x : Int, 0 ≤ x → Lib.itoa x = Lib.decDigits x.natAbs := fun x hx => by rw [itoa_eq]; unfold sgnL; rw [if_neg (by omega)]; rfl
      rw [e n hn0, hb, hd]
      by_cases h10 : 10 ≤ n
      · rw [if_pos h10, e _ (by omega), Lib.decDigits, dif_neg (by omega), show (n / 10).natAbs = n.natAbs / 10 by omega]
      · rw [if_neg h10, Lib.decDigits_one (by omega), show n.natAbs % 10 = n.natAbs by omega]; rfl)
    clear h0
    by_cases h10 : 10 ≤ n
    · have t1 : decide (10 ≤ n) = true := decide_eq_true h10
      have HR := fun W => Lib.hid (ih (n / 10) (by unfold mu at hk ⊢; rw [if_neg (by omega)] at hk ⊢; omega) (decide_eq_true (by omega)) W)
      have H10 := Lib.hid h10
      clear hk hn ih hd hd2 hb
      go_enter Tryd.func24, Tryd.ntmps24
      go_wp2_with fail
      refine (HR _).out.mono ?_
      rintro e w1 ⟨r, rfl, hr, o1⟩
      have hrs : r.size ≤ 30 := by
        have h1 := size_list r
        rw [hr, itoa_eq] at h1
        have h2 := (dec_len (n / 10).natAbs (by omega)).2
        have h3 : (sgnL (n / 10)).length ≤ 1 := by unfold sgnL; split <;> simp
        rw [List.length_append] at h1
        omega
      have hsum : ¬ (r.size + ({ data := #[b] } : ByteArray).size > 9223372036854775807) := by have : ({ data := #[b] } : ByteArray).size = 1 := rfl; omega
      have HH := Lib.hid (⟨hr, o1⟩ : _ ∧ _)
      clear hr o1
      go_wp2_with fail
      go_returns
      refine ⟨_, rfl, ?_, ?_⟩
      · rw [list_app, HH.out.1, HB.out, if_pos H10.out]
      · exact Gw.trans (Below.alloc (Below.refl _ _) (Nat.le_refl _) _) HH.out.2
    · have t1 : decide (10 ≤ n) = false := decide_eq_false h10
      have H10 := Lib.hid h10
      clear hk hn ih hd hd2 hb
      go_enter Tryd.func24, Tryd.ntmps24
      go_wp2_with fail
      go_returns
      refine ⟨_, rfl, ?_, Below.alloc (Below.refl _ _) (Nat.le_refl _) _⟩
      rw [HB.out, if_neg (by have := H10.out; omega)]
      rfl
theorem itoa_rest {n : Int} (h : n < 0) : (Lib.itoa n).drop 1 = Lib.decDigits n.natAbs := by rw [itoa_eq]; unfold sgnL; rw [if_pos h]; rfl
theorem itoa_pos {n : Int} (h : ¬ n < 0) : Lib.itoa n = Lib.decDigits n.natAbs := by rw [itoa_eq]; unfold sgnL; rw [if_neg h]; rfl
/-- The digits and the sign apart. -/
structure PrP (n : Int) (W : World) (v6 v7 : Value) (wx : World) : Prop where
  ex : ∃ q s : ByteArray, v6 = .string q ∧ v7 = .string s ∧ q.data.toList = Lib.decDigits n.natAbs ∧ s.data.toList = sgnL n ∧ wx = W
set_option maxRecDepth 100000 in
set_option maxHeartbeats 4000000 in
theorem r_print (n p : Int) (hn : fits64 n = true) (w : World) : Calls Tryd.prog 11 #[.int .i64 n, .int .i64 p] w fun e w' => ∃ r : ByteArray, e = .returned (.tuple #[.string r, .int .i64 (printI n p).2]) ∧ r.data.toList = (printI n p).1 ∧ Gw w w' := by
  have hn' : -9223372036854775808 ≤ n ∧ n ≤ 9223372036854775807 := of_decide_eq_true hn
  by_cases hp : 0 ≤ p ∧ p ≤ 9
  case neg =>
    have e : printI n p = ([], 1) := if_neg hp
    rw [e]
    simp only
    have ho : (∃ c, decide (p < 0) = c ∧ (c = false → decide (9 < p) = true)) := ⟨_, rfl, fun h => decide_eq_true (by have := of_decide_eq_false h; omega)⟩
    obtain ⟨c, hc, hc2⟩ := ho
    clear hp e hn hn'
    cases c with
    | true =>
      clear hc2
      go_enter Tryd.func11, Tryd.ntmps11
      go_wp2_with fail
      go_returns
      exact ⟨_, rfl, rfl, Gw.refl _⟩
    | false =>
      have t3 := hc2 rfl
      clear hc2
      go_enter Tryd.func11, Tryd.ntmps11
      go_wp2_with fail
      go_returns
      exact ⟨_, rfl, rfl, Gw.refl _⟩
  case pos =>
  obtain ⟨k, rfl⟩ : ∃ k : Nat, p = k := ⟨p.toNat, by omega⟩
  have hk : k ≤ 9 := by omega
  have t2 : decide ((k : Int) < 0) = false := decide_eq_false (by omega)
  have t3 : decide (9 < (k : Int)) = false := decide_eq_false (by omega)
  rw [printI_nat n k hk]
  simp only
  have HD := fun W => Lib.hid (r_digits (mu n + 1) n (by omega) hn W)
  have hdl := dec_len n.natAbs (by omega)
  by_cases h0 : k = 0
  · have t0 : ((k : Int) == 0) = true := by simp; omega
    have ep : printC n k = Lib.itoa n := by unfold printC; rw [if_pos h0]
    rw [ep]
    clear hp hn hn' h0 ep hdl
    go_enter Tryd.func11, Tryd.ntmps11
    go_wp2_with fail
    refine (HD _).out.mono ?_
    rintro e w1 ⟨r, rfl, hr, o1⟩
    have HR := Lib.hid (⟨hr, o1⟩ : _ ∧ _)
    clear hr o1
    go_wp2_with fail
    go_returns
    exact ⟨_, rfl, HR.out.1, HR.out.2⟩
  have t0 : ((k : Int) == 0) = false := by simp; omega
  have ep : printC n k = sgnL n ++ ((padD n.natAbs (k + 1)).take ((padD n.natAbs (k + 1)).length - k) ++ 46 :: (padD n.natAbs (k + 1)).drop ((padD n.natAbs (k + 1)).length - k)) := by unfold printC; rw [if_neg h0]
  rw [ep]
  have HK := Lib.hid (⟨hn', hk, h0, hdl⟩ : _ ∧ _ ∧ _ ∧ _)
  obtain ⟨tn, htn⟩ : ∃ tn, decide (n < 0) = tn := ⟨_, rfl⟩
  have HTN := Lib.hid htn
  clear hp hn hn' h0 ep hdl hk
  go_enter Tryd.func11, Tryd.ntmps11
  go_wp2_with fail
  refine (HD _).out.mono ?_
  rintro e w1 ⟨r, rfl, hr, o1⟩
  have hrl := itoa_small hr (by have := HK.out.1; omega)
  have HR := Lib.hid (⟨hr, o1⟩ : _ ∧ _)
  clear hr o1
  go_upto_if 20 with fail
  go_cut [6, 7] from 21 to 22 (fun s6 s7 wx => PrP n w1 s6 s7 wx)
  case first =>
    cases tn with
    | true =>
      have hneg := of_decide_eq_true HTN.out
      have hr1 : 1 ≤ r.size := by
        have h1 := size_list r
        rw [HR.out.1, dig_neg hneg] at h1
        simp at h1; omega
      have j1 : (0 : Int) ≤ 1 ∧ (1 : Int) ≤ (r.size : Int) := by omega
      have HNEG := Lib.hid hneg
      clear hneg htn
      go_wp2_with fail
      go_meet
      refine ⟨⟨_, _, rfl, rfl, ?_, ?_, rfl⟩⟩
      · rw [list_ext, size_list, List.take_length, HR.out.1, itoa_rest HNEG.out]
      · unfold sgnL; rw [if_pos HNEG.out]
    | false =>
      have hneg := of_decide_eq_false HTN.out
      have HNEG := Lib.hid hneg
      clear hneg htn
      go_wp2_with fail
      go_meet
      refine ⟨⟨_, _, rfl, rfl, ?_, ?_, rfl⟩⟩
      · rw [HR.out.1, itoa_pos (by have := HNEG.out; omega)]
      · unfold sgnL; rw [if_neg (by have := HNEG.out; omega)]
  case rest =>
  obtain ⟨⟨q, s, rfl, rfl, hq, hs, hwc⟩⟩ := hcut
  obtain ⟨W2, hW2⟩ : ∃ W2, W2 = wc := ⟨_, rfl⟩
  rw [← hW2] at hwc ⊢
  clear hW2
  subst hwc
  obtain ⟨D, hD⟩ : ∃ D, D = Lib.decDigits n.natAbs := ⟨_, rfl⟩
  obtain ⟨Q, hQ⟩ : ∃ Q, Q = padD n.natAbs (k + 1) := ⟨_, rfl⟩
  have hpd : Q = List.replicate (k + 1 - D.length) 48 ++ D := by rw [hQ, hD]; rfl
  have hdl := HK.out.2.2.2
  rw [← hD] at hq hdl
  have HQQ := Lib.hid hQ
  have hql := size_list q
  rw [hq] at hql
  have hsl : s.size ≤ 1 := by rw [size_list, hs]; unfold sgnL; split <;> simp
  have hk9 := HK.out.2.1
  have HQ := Lib.hid (⟨hq, hs, hpd, hdl, hql⟩ : _ ∧ _ ∧ _ ∧ _ ∧ _)
  clear htn hD hQ hpd hq hs hdl hql
  go_wp2_with fail
  go_loop [6] (fun v => ∃ (j : Nat) (x : ByteArray), j ≤ k + 1 - D.length ∧ v = .string x ∧ x.data.toList = List.replicate j 48 ++ D) (fun v => match v with | .string x => 100 - x.size | _ => 0)
  case atStart => exact ⟨0, q, Nat.zero_le _, rfl, HQ.out.1⟩
  case round =>
    obtain ⟨j, x, hj, rfl, hx⟩ := hrel
    have hxs := size_list x
    rw [hx, List.length_append, List.length_replicate] at hxs
    have hdl := HQ.out.2.2.2.1
    have hx40 : x.size ≤ 40 := by omega
    by_cases hlt : x.size ≤ k
    · have t10 : decide (x.size ≤ k) = true := decide_eq_true hlt
      have hsum : ¬ (({ data := #[48] } : ByteArray).size + x.size > 9223372036854775807) := by have : ({ data := #[48] } : ByteArray).size = 1 := rfl; omega
      have HX := Lib.hid (⟨hx, hxs, hj⟩ : _ ∧ _ ∧ _)
      have hxl : (({ data := #[48] } : ByteArray) ++ x).size = x.size + 1 := by rw [ByteArray.size_append']; have : ({ data := #[48] } : ByteArray).size = 1 := rfl; omega
      have HXL := Lib.hid hxl
      clear hx hxs hj hxl hdl
      go_wp2_with fail
      go_round
      case rel =>
        refine ⟨j + 1, _, ?_, rfl, ?_⟩
        · have := HX.out.2.1; have := HX.out.2.2; have := HQ.out.2.2.2.1; omega
        · rw [list_app, HX.out.1, List.replicate_succ]; rfl
      case measure =>
        show 100 - (({ data := #[48] } : ByteArray) ++ x).size < 100 - x.size
        rw [HXL.out]; omega
    · have t10 : decide (x.size ≤ k) = false := decide_eq_false hlt
      have hjq : x.data.toList = Q := by rw [hx, HQ.out.2.2.1, show k + 1 - D.length = j by omega]
      obtain ⟨g, hg⟩ : ∃ g, g = x.size - k := ⟨_, rfl⟩
      have ww3 : IntKind.i64.wrap ((x.size : Int) - (k : Int)) = (g : Int) := by rw [IntKind.wrap_i64]; omega
      have i1 : (0 : Int) ≤ (g : Int) ∧ (g : Int) ≤ (x.size : Int) := by omega
      have i2 : g ≤ x.size := by omega
      have HX := Lib.hid (⟨hjq, hg⟩ : _ ∧ _)
      clear hx hxs hj hjq hg hlt hdl
      go_wp2_with fail
      go_quiet (fail)
      go_wp2_with fail
      go_returns
      refine ⟨_, rfl, ?_, (HR.out.2).trans (Go.Joins.below_draws _ _ _)⟩
      rw [← HQQ.out, list_app, list_app, list_app, list_ext, list_ext, HX.out.1, HQ.out.2.1, size_list, HX.out.1, List.take_length, List.drop_zero, HX.out.2, size_list, HX.out.1, List.append_assoc, List.append_assoc]
      rfl
end Go.Proofs.YtkpndnjnckaanaaDoor
