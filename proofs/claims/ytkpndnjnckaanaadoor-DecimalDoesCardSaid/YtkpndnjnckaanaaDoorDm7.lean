/- Decimal: works, and the walks of DecimalPlace and DecimalPlaces. Condition: FormatInt's table is laid. -/
import Derived.Test.YtkpndnjnckaanaaDoorDm6
namespace Go.Proofs.YtkpndnjnckaanaaDoor
set_option linter.unusedVariables false
set_option linter.unusedSimpArgs false
open Go.RowKit Go.Shelf

theorem bytes_of {r : ByteArray} {l : List UInt8} (h : r.data.toList = l) : r = ⟨l.toArray⟩ := by subst h; rfl
theorem works_prints : printI (-5) 2 = ([45, 48, 46, 48, 53], 0) := by
  have e5 : Lib.decDigits 5 = [53] := by rw [Lib.decDigits_one (by omega)]; rfl
  show (printC (-5) 2, (0 : Int)) = _
  unfold printC padD
  rw [show (-5 : Int).natAbs = 5 from rfl, e5]
  rfl
theorem d_works (w : World) (ht : Tb w) : Calls Tryd.prog 7 #[] w fun e w' => e = .returned (.bool true) ∧ Gw w w' := by
  have h1 := d_print (-5) 2 (by decide) w ht
  rw [works_prints] at h1
  have H1 := Lib.hid h1
  have H2 := fun W => d_parse ⟨#[49, 50, 46, 53]⟩ 2 (by decide) W
  have e2 : parseI [49, 50, 46, 53] 2 = (1250, 0, 0) := by decide
  simp only [e2] at H2
  have H2 := fun W => Lib.hid (H2 W)
  have H3 := fun W => d_parse ⟨#[49, 46, 50, 51, 52]⟩ 2 (by decide) W
  have e3 : parseI [49, 46, 50, 51, 52] 2 = (0, 20, 4) := by decide
  simp only [e3] at H3
  have H3 := fun W => Lib.hid (H3 W)
  have H4 := fun W (h : Tb W) => d_print 1 10 (by decide) W h
  have e4 : printI 1 10 = ([], 1) := rfl
  simp only [e4] at H4
  have H4 := fun W => Lib.hid (H4 W)
  have HT := Lib.hid ht
  clear h1 e2 e3 e4 ht
  go_enter Tryd.func7, Tryd.ntmps7
  go_wp2_with fail
  refine H1.out.mono ?_
  rintro e w1 ⟨r, rfl, hr, o1⟩
  obtain rfl := bytes_of hr
  have O1 := Lib.hid o1
  clear hr o1
  go_wp2_with fail
  refine (H2 _).out.mono ?_
  rintro e w2 ⟨rfl, o2⟩
  have O2 := Lib.hid (O1.out.trans o2)
  clear o2
  go_wp2_with fail
  refine (H3 _).out.mono ?_
  rintro e w3 ⟨rfl, o3⟩
  have O3 := Lib.hid (O2.out.trans o3)
  clear o3
  go_wp2_with fail
  refine ((H4 _).out (HT.out.keep O3.out)).mono ?_
  rintro e w4 ⟨r4, rfl, hr4, o4⟩
  have O4 := Lib.hid (O3.out.trans o4)
  clear hr4 o4
  go_wp2_with fail
  go_returns
  exact ⟨rfl, O4.out⟩

theorem parse_cases (s : List UInt8) (p : Nat) : (∃ a, wrongC s p = some a ∧ parseC s p = (0, 20, (a : Int))) ∨ (wrongC s p = none ∧ (parseC s p).2.2 = 0 ∧ (((parseC s p).2.1 = 0 ∧ (parseC s p).1 = sgnV (minusOf s) (valD (digR (restOf s) p)) ∧ fits64 (parseC s p).1 = true) ∨ (parseC s p).2.1 = 21 ∧ (parseC s p).1 = 0)) := by
  cases h : wrongC s p with
  | some a => left; exact ⟨a, rfl, by unfold parseC; rw [h]⟩
  | none =>
    right
    refine ⟨rfl, ?_⟩
    unfold parseC
    rw [h]
    simp only
    cases hf : fits64 (sgnV (minusOf s) (valD (digR (restOf s) p))) with
    | true => rw [if_pos rfl]; exact ⟨rfl, .inl ⟨rfl, rfl, hf⟩⟩
    | false => rw [if_neg (by decide)]; exact ⟨rfl, .inr ⟨rfl, rfl⟩⟩
theorem parse_none {s : List UInt8} {p : Nat} (h : wrongC s p = none) : (parseC s p).2.1 ≠ 20 := by
  rcases parse_cases s p with ⟨a, ha, _⟩ | ⟨_, _, ⟨h1, _⟩ | ⟨h1, _⟩⟩
  · rw [h] at ha; cases ha
  · omega
  · omega
theorem parseI_nat (s : List UInt8) (k : Nat) (h : k ≤ 9) : parseI s (k : Int) = parseC s k := if_pos (by omega)

set_option maxRecDepth 100000 in
set_option maxHeartbeats 4000000 in
theorem decimalPlace_walk (s : ByteArray) (hs : s.size ≤ 140737488351232) (p : Int) (w : World) (ht : Tb w) : Calls Tryd.prog 5 #[.string s, .int .i64 p] w fun e w' => e = .returned (.bool true) ∧ Gw w w' := by
  have HWK := Lib.hid (d_works w ht)
  by_cases hg : s.size ≤ 65536 ∧ 0 ≤ p ∧ p ≤ 9
  case neg =>
    clear ht
    by_cases h1 : s.size ≤ 65536
    case neg =>
      have t1 : decide (65536 < (s.size : Int)) = true := decide_eq_true (by omega)
      clear hg h1
      go_enter Tryd.func5, Tryd.ntmps5
      go_wp2_with fail
      refine HWK.out.mono ?_
      rintro e w1 ⟨rfl, o1⟩
      have O1 := Lib.hid o1
      clear o1
      go_wp2_with fail
      go_returns
      exact ⟨rfl, O1.out⟩
    case pos =>
      have t1 : decide (65536 < (s.size : Int)) = false := decide_eq_false (by omega)
      by_cases h2 : p < 0
      · have t2 : decide (p < 0) = true := decide_eq_true h2
        clear hg h1 h2
        go_enter Tryd.func5, Tryd.ntmps5
        go_wp2_with fail
        refine HWK.out.mono ?_
        rintro e w1 ⟨rfl, o1⟩
        have O1 := Lib.hid o1
        clear o1
        go_wp2_with fail
        go_returns
        exact ⟨rfl, O1.out⟩
      · have t2 : decide (p < 0) = false := decide_eq_false h2
        have t3 : decide (9 < p) = true := decide_eq_true (by omega)
        clear hg h1 h2
        go_enter Tryd.func5, Tryd.ntmps5
        go_wp2_with fail
        refine HWK.out.mono ?_
        rintro e w1 ⟨rfl, o1⟩
        have O1 := Lib.hid o1
        clear o1
        go_wp2_with fail
        go_returns
        exact ⟨rfl, O1.out⟩
  case pos =>
  obtain ⟨h1, h2, h3⟩ := hg
  obtain ⟨k, rfl⟩ : ∃ k : Nat, p = k := ⟨p.toNat, by omega⟩
  have hk : k ≤ 9 := by omega
  have t1 : decide (65536 < (s.size : Int)) = false := decide_eq_false (by omega)
  have t3 : decide (9 < (k : Int)) = false := decide_eq_false (by omega)
  have t2 : decide ((k : Int) < 0) = false := decide_eq_false (by omega)
  have HP := fun W => d_parse s k (by omega) W
  simp only [parseI_nat _ _ hk] at HP
  have hsl := size_list s
  obtain ⟨S, hS⟩ : ∃ S, S = s.data.toList := ⟨_, rfl⟩
  rw [← hS] at HP hsl
  have hc := parse_cases S k
  obtain ⟨px, hpx⟩ : ∃ px, px = parseC S k := ⟨_, rfl⟩
  rw [← hpx] at HP hc
  clear h2 h3 ht
  rcases hc with ⟨a, ha, hpa⟩ | ⟨hno, hat, hee⟩
  case inr =>
    obtain ⟨x0, x1, x2⟩ := px
    simp only at HP hat hee
    subst hat
    have t4 : (x1 != 20) = true := by
      have : x1 ≠ 20 := by rcases hee with ⟨h, _⟩ | ⟨h, _⟩ <;> omega
      simpa using this
    have HP := fun W => Lib.hid (HP W)
    clear hno hee hpx hS hsl h1 hk
    go_enter Tryd.func5, Tryd.ntmps5
    go_wp2_with fail
    refine HWK.out.mono ?_
    rintro e w1 ⟨rfl, o1⟩
    have O1 := Lib.hid o1
    clear o1
    go_wp2_with fail
    refine (HP _).out.mono ?_
    rintro e w2 ⟨rfl, o2⟩
    have O2 := Lib.hid (O1.out.trans o2)
    clear o2
    go_wp2_with fail
    go_returns
    exact ⟨rfl, O2.out⟩
  case inl =>
  obtain ⟨i1, i2, i3⟩ := place_law ha
  subst hpa
  simp only at HP
  have HP := fun W => Lib.hid (HP W)
  have hasz : a ≤ s.size := by omega
  obtain ⟨A, hA⟩ : ∃ A, s.extract 0 a = A := ⟨_, rfl⟩
  have hAl : A.data.toList = S.take a := by rw [← hA, list_ext, ← hS, List.drop_zero]
  have hAs : A.size ≤ 65536 := by rw [size_list, hAl, List.length_take]; omega
  obtain ⟨B, hB⟩ : ∃ B, A ++ ({ data := #[48] } : ByteArray) = B := ⟨_, rfl⟩
  have hBl : B.data.toList = S.take a ++ [48] := by rw [← hB, list_app, hAl]
  have hBs : B.size ≤ 65537 := by rw [size_list, hBl, List.length_append, ← hAl, ← size_list]; simp; omega
  have HPA := fun W => d_parse A k (by omega) W
  have HPB := fun W => d_parse B k (by omega) W
  simp only [parseI_nat _ _ hk, hAl, hBl] at HPA HPB
  have hor : (parseC (S.take a) k).2.1 ≠ 20 ∨ (parseC (S.take a ++ [48]) k).2.1 ≠ 20 := i2.imp parse_none parse_none
  have heq : a = s.size → (parseC (S.take a) k).2.1 = 20 := fun h => by rw [List.take_of_length_le (by omega), ← hpx]
  obtain ⟨⟨a0, a1, a2⟩, hpA⟩ : ∃ x, x = parseC (S.take a) k := ⟨_, rfl⟩
  obtain ⟨⟨b0, b1, b2⟩, hpB⟩ : ∃ x, x = parseC (S.take a ++ [48]) k := ⟨_, rfl⟩
  rw [← hpA] at HPA hor heq
  rw [← hpB] at HPB hor
  simp only at HPA HPB hor heq
  have HPA := fun W => Lib.hid (HPA W)
  have HPB := fun W => Lib.hid (HPB W)
  have HAA := Lib.hid hA
  have HBB := Lib.hid hB
  have j1 : (0 : Int) ≤ (a : Int) ∧ (a : Int) ≤ (s.size : Int) := by omega
  have hsum : ¬ (A.size + ({ data := #[48] } : ByteArray).size > 9223372036854775807) := by have : ({ data := #[48] } : ByteArray).size = 1 := rfl; omega
  have t4 : decide ((a : Int) < 0) = false := decide_eq_false (by omega)
  have t5 : decide (s.size < a) = false := decide_eq_false (by omega)
  have h6 : (∃ f, (a1 != 20) = f ∧ (f = false → (b1 != 20) = true)) := ⟨_, rfl, fun h => by
    have h7 : a1 = 20 := by simpa using h
    rcases hor with h | h
    · exact absurd h7 h
    · simpa using h⟩
  obtain ⟨f, hf, hf2⟩ := h6
  clear hA hB hAl hBl hBs hor hpA hpB hpx ha i1 i2
  by_cases hend : a = s.size
  · have t6 : ((a : Int) == (s.size : Int)) = true := by simp; omega
    obtain rfl : a1 = 20 := heq hend
    obtain rfl : f = false := by rw [← hf]; rfl
    have t7 := hf2 rfl
    clear heq hend hf hf2 i3 hS hsl hk
    go_enter Tryd.func5, Tryd.ntmps5
    go_wp2_with fail
    refine HWK.out.mono ?_
    rintro e w1 ⟨rfl, o1⟩
    have O1 := Lib.hid o1
    clear o1
    go_wp2_with fail
    refine (HP _).out.mono ?_
    rintro e w2 ⟨rfl, o2⟩
    have O2 := Lib.hid (O1.out.trans o2)
    clear o2
    go_wp2_with fail
    rw [HAA.out]
    refine (HPA _).out.mono ?_
    rintro e w3 ⟨rfl, o3⟩
    have O3 := Lib.hid (O2.out.trans o3)
    clear o3
    go_upto_region 10 with fail
    go_wp2_with fail
    rw [HAA.out, HBB.out]
    refine (HPB _).out.mono ?_
    rintro e w4 ⟨rfl, o4⟩
    have O4 := Lib.hid (O3.out.trans o4)
    clear o4
    go_wp2_with fail
    go_returns
    exact ⟨rfl, O4.out⟩
  · have t6 : ((a : Int) == (s.size : Int)) = false := by simp; omega
    have i3 := i3 (by omega)
    obtain ⟨C, hC⟩ : ∃ C, s.extract 0 (a + 1) = C := ⟨_, rfl⟩
    have hCl : C.data.toList = S.take (a + 1) := by rw [← hC, list_ext, ← hS, List.drop_zero]
    have hCs : C.size ≤ 65536 := by rw [size_list, hCl, List.length_take]; omega
    have HPC := fun W => d_parse C k (by omega) W
    have epc : parseC (S.take (a + 1)) k = (0, 20, (a : Int)) := by unfold parseC; rw [i3]
    simp only [parseI_nat _ _ hk, hCl, epc] at HPC
    have HPC := fun W => Lib.hid (HPC W)
    have HCC := Lib.hid hC
    have ww1 : IntKind.i64.wrap ((a : Int) + 1) = (a : Int) + 1 := by rw [IntKind.wrap_i64]; omega
    have j2 : (0 : Int) ≤ (a : Int) + 1 ∧ (a : Int) + 1 ≤ (s.size : Int) := by omega
    clear heq hend i3 hS hsl hk hC hCl epc
    cases f with
    | true =>
      clear hf2
      go_enter Tryd.func5, Tryd.ntmps5
      go_wp2_with fail
      refine HWK.out.mono ?_
      rintro e w1 ⟨rfl, o1⟩
      have O1 := Lib.hid o1
      clear o1
      go_wp2_with fail
      refine (HP _).out.mono ?_
      rintro e w2 ⟨rfl, o2⟩
      have O2 := Lib.hid (O1.out.trans o2)
      clear o2
      go_wp2_with fail
      rw [HAA.out]
      refine (HPA _).out.mono ?_
      rintro e w3 ⟨rfl, o3⟩
      have O3 := Lib.hid (O2.out.trans o3)
      clear o3
      go_upto_region 10 with fail
      go_wp2_with fail
      rw [HAA.out, HBB.out]
      refine (HPB _).out.mono ?_
      rintro e w4 ⟨rfl, o4⟩
      have O4 := Lib.hid (O3.out.trans o4)
      clear o4
      go_wp2_with fail
      have ec : ((a : Int) + 1).toNat = a + 1 := by omega
      simp only [ec, HCC.out]
      clear ec
      refine (HPC _).out.mono ?_
      rintro e w5 ⟨rfl, o5⟩
      have O5 := Lib.hid (O4.out.trans o5)
      clear o5
      go_wp2_with fail
      go_returns
      exact ⟨rfl, O5.out⟩
    | false =>
      have t7 := hf2 rfl
      clear hf2
      go_enter Tryd.func5, Tryd.ntmps5
      go_wp2_with fail
      refine HWK.out.mono ?_
      rintro e w1 ⟨rfl, o1⟩
      have O1 := Lib.hid o1
      clear o1
      go_wp2_with fail
      refine (HP _).out.mono ?_
      rintro e w2 ⟨rfl, o2⟩
      have O2 := Lib.hid (O1.out.trans o2)
      clear o2
      go_wp2_with fail
      rw [HAA.out]
      refine (HPA _).out.mono ?_
      rintro e w3 ⟨rfl, o3⟩
      have O3 := Lib.hid (O2.out.trans o3)
      clear o3
      go_upto_region 10 with fail
      go_wp2_with fail
      rw [HAA.out, HBB.out]
      refine (HPB _).out.mono ?_
      rintro e w4 ⟨rfl, o4⟩
      have O4 := Lib.hid (O3.out.trans o4)
      clear o4
      go_wp2_with fail
      have ec : ((a : Int) + 1).toNat = a + 1 := by omega
      simp only [ec, HCC.out]
      clear ec
      refine (HPC _).out.mono ?_
      rintro e w5 ⟨rfl, o5⟩
      have O5 := Lib.hid (O4.out.trans o5)
      clear o5
      go_wp2_with fail
      go_returns
      exact ⟨rfl, O5.out⟩
end Go.Proofs.YtkpndnjnckaanaaDoor
