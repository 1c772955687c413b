/- Decimal: the walk of DecimalBack. Condition: the number is of 64 bits; FormatInt's table is laid. -/
import Derived.Test.YtkpndnjnckaanaaDoorDm8
namespace Go.Proofs.YtkpndnjnckaanaaDoor
set_option linter.unusedVariables false
set_option linter.unusedSimpArgs false
open Go.RowKit Go.Shelf

/-- The text without the sign of a nought. -/
structure BkP (Q : List UInt8) (W : World) (v0 : Value) (wx : World) : Prop where
  ex : ∃ q : ByteArray, v0 = .string q ∧ q.data.toList = Q ∧ wx = W
set_option maxRecDepth 100000 in
set_option maxHeartbeats 4000000 in
theorem decimalBack_walk (s : ByteArray) (hs : s.size ≤ 140737488351232) (n : Int) (hn : fits64 n = true) (p : Int) (w : World) (ht : Tb w) : Calls Tryd.prog 4 #[.string s, .int .i64 n, .int .i64 p] w fun e w' => e = .returned (.bool true) ∧ Gw w w' := by
  have HWK := Lib.hid (d_works w ht)
  have HT := Lib.hid ht
  clear ht
  by_cases h1 : s.size ≤ 1073741824
  case neg =>
    have t1 : decide (1073741824 < (s.size : Int)) = true := decide_eq_true (by omega)
    clear h1
    go_enter Tryd.func4, Tryd.ntmps4
    go_wp2_with fail
    refine HWK.out.mono ?_
    rintro e w1 ⟨rfl, o1⟩
    have O1 := Lib.hid o1
    clear o1
    go_wp2_with fail
    go_returns
    exact ⟨rfl, O1.out⟩
  have t1 : decide (1073741824 < (s.size : Int)) = false := decide_eq_false (by omega)
  by_cases hp : 0 ≤ p ∧ p ≤ 9
  case neg =>
    have HPR := fun W (h : Tb W) => d_print n p hn W h
    have HPA := fun W => d_parse s p (by omega) W
    have e1 : printI n p = ([], 1) := if_neg hp
    have e2 : parseI s.data.toList p = (0, 1, 0) := if_neg hp
    rw [e1] at HPR
    rw [e2] at HPA
    simp only at HPR HPA
    have HPR := fun W h => Lib.hid (HPR W h)
    have HPA := fun W => Lib.hid (HPA W)
    have ho : (∃ c, decide (p < 0) = c ∧ (c = false → decide (9 < p) = true)) := ⟨_, rfl, fun h => decide_eq_true (by have := of_decide_eq_false h; omega)⟩
    obtain ⟨c, hc, hc2⟩ := ho
    have hem : ({ data := [].toArray } : ByteArray).toList = [] := by rw [Lib.toList_data]
    clear e1 e2 hp h1
    cases c with
    | true =>
      clear hc2
      go_enter Tryd.func4, Tryd.ntmps4
      go_wp2_with fail
      refine HWK.out.mono ?_
      rintro e w1 ⟨rfl, o1⟩
      have O1 := Lib.hid o1
      clear o1
      go_wp2_with fail
      refine ((HPR _ (HT.out.keep O1.out)).out).mono ?_
      rintro e w2 ⟨r, rfl, hr, o2⟩
      obtain rfl := bytes_of hr
      have O2 := Lib.hid (O1.out.trans o2)
      clear o2 hr
      go_wp2_with fail
      refine (HPA _).out.mono ?_
      rintro e w3 ⟨rfl, o3⟩
      have O3 := Lib.hid (O2.out.trans o3)
      clear o3
      go_wp2_with fail
      go_returns
      exact ⟨rfl, O3.out⟩
    | false =>
      have t3 := hc2 rfl
      clear hc2
      go_enter Tryd.func4, Tryd.ntmps4
      go_wp2_with fail
      refine HWK.out.mono ?_
      rintro e w1 ⟨rfl, o1⟩
      have O1 := Lib.hid o1
      clear o1
      go_wp2_with fail
      refine ((HPR _ (HT.out.keep O1.out)).out).mono ?_
      rintro e w2 ⟨r, rfl, hr, o2⟩
      obtain rfl := bytes_of hr
      have O2 := Lib.hid (O1.out.trans o2)
      clear o2 hr
      go_wp2_with fail
      refine (HPA _).out.mono ?_
      rintro e w3 ⟨rfl, o3⟩
      have O3 := Lib.hid (O2.out.trans o3)
      clear o3
      go_wp2_with fail
      go_returns
      exact ⟨rfl, O3.out⟩
  case pos =>
  obtain ⟨k, rfl⟩ : ∃ k : Nat, p = k := ⟨p.toNat, by omega⟩
  have hk : k ≤ 9 := by omega
  have t3 : decide (9 < (k : Int)) = false := decide_eq_false (by omega)
  have t2 : decide ((k : Int) < 0) = false := decide_eq_false (by omega)
  have HPR := fun W (h : Tb W) => d_print n k hn W h
  simp only [printI_nat _ _ hk] at HPR
  have HPR := fun W h => Lib.hid (HPR W h)
  have hlen := print_len n hn k hk
  have hrd := print_read n k 0
  rw [Int.pow_zero, Int.mul_one, hn] at hrd
  simp only [if_true, Nat.add_zero] at hrd
  have ep1 : ∀ l, parseI l (k : Int) = parseC l k := fun l => parseI_nat l k hk
  have HPS := fun W => d_parse s k (by omega) W
  have hsl := size_list s
  rw [ep1] at HPS
  obtain ⟨S, hS⟩ : ∃ S, S = s.data.toList := ⟨_, rfl⟩
  rw [← hS] at HPS hsl
  have hc := parse_cases S k
  obtain ⟨⟨x0, x1, x2⟩, hpx⟩ : ∃ px, px = parseC S k := ⟨_, rfl⟩
  rw [← hpx] at HPS hc
  simp only at HPS
  have HPS := fun W => Lib.hid (HPS W)
  have HX := Lib.hid (⟨hlen, hrd, ep1, hS, hsl, hc, hpx⟩ : _ ∧ _ ∧ _ ∧ _ ∧ _ ∧ _ ∧ _)
  have HK := Lib.hid hk
  have hnn : (n != n) = false := by simp
  clear hlen hrd ep1 hS hsl hc hpx hk hp
  go_enter Tryd.func4, Tryd.ntmps4
  go_wp2_with fail
  refine HWK.out.mono ?_
  rintro e w1 ⟨rfl, o1⟩
  have O1 := Lib.hid o1
  clear o1
  go_wp2_with fail
  refine ((HPR _ (HT.out.keep O1.out)).out).mono ?_
  rintro e w2 ⟨r, rfl, hr, o2⟩
  have O2 := Lib.hid (O1.out.trans o2)
  have hrs := size_list r
  rw [hr] at hrs
  have HPA := fun W => d_parse r k (by have := HX.out.1; omega) W
  rw [hr, HX.out.2.2.1, HX.out.2.1] at HPA
  simp only at HPA
  have HPA := fun W => Lib.hid (HPA W)
  clear hr hrs o2
  go_wp2_with fail
  refine (HPA _).out.mono ?_
  rintro e w3 ⟨rfl, o3⟩
  have O3 := Lib.hid (O2.out.trans o3)
  clear o3
  go_wp2_with fail
  refine (HPS _).out.mono ?_
  rintro e w4 ⟨rfl, o4⟩
  have O4 := Lib.hid (O3.out.trans o4)
  clear o4
  rcases HX.out.2.2.2.2.2.1 with ⟨a, ha, hpa⟩ | ⟨hno, rfl, ⟨rfl, hx0, hxf⟩ | ⟨rfl, rfl⟩⟩
  case inl =>
    simp only [Prod.mk.injEq] at hpa
    obtain ⟨rfl, rfl, rfl⟩ := hpa
    have hal := (place_law ha).1
    have hsl := HX.out.2.2.2.2.1
    have t4 : decide (0 ≤ (a : Int)) = true := decide_eq_true (by omega)
    have t5 : decide (a ≤ s.size) = true := decide_eq_true (by omega)
    clear ha hal hsl
    go_wp2_with fail
    go_returns
    exact ⟨rfl, O4.out⟩
  case inr.inr =>
    have t5 : decide (0 ≤ (s.size : Int)) = true := decide_eq_true (by omega)
    clear hno
    go_wp2_with fail
    go_returns
    exact ⟨rfl, O4.out⟩
  case inr.inl =>
  have hxf' : fits64 x0 = true := hxf
  have hx0' : x0 = sgnV (minusOf S) (valD (digR (restOf S) k)) := hx0
  have HPB := fun W (h : Tb W) => d_print x0 k hxf' W h
  simp only [printI_nat _ _ HK.out] at HPB
  have HPB := fun W h => Lib.hid (HPB W h)
  obtain ⟨hne, Z, hZ, hZb⟩ := read_print hno x0 hx0'
  obtain ⟨b0, t0, hb0⟩ : ∃ b0 t0, S = b0 :: t0 := by
    cases S with
    | nil => exact absurd rfl hne
    | cons b t => exact ⟨b, t, rfl⟩
  have hix := fun W => idx_at (r := s) (i := 0) (b := b0) (by rw [← HX.out.2.2.2.1, hb0]; rfl) W
  have e0 : ((0 : Nat) : Int) = 0 := rfl
  rw [e0] at hix
  obtain ⟨m, hm⟩ : ∃ m, ((x0 == 0) && (((b0.toNat : Nat) : Int) == 45)) = m := ⟨_, rfl⟩
  have hbm : minusOf S = (((b0.toNat : Nat) : Int) == 45) := by
    rw [hb0]
    show (b0 == 45) = _
    by_cases h : b0 = 45
    · subst h; rfl
    · have : b0.toNat ≠ 45 := fun h' => h (UInt8.toNat_inj.1 h')
      rw [beq_eq_false_iff_ne.2 h]
      symm
      exact beq_eq_false_iff_ne.2 (by omega)
  have hQ : (if x0 = 0 ∧ minusOf S = true then S.tail else S) = if m then S.tail else S := by
    rw [← hm, hbm]
    by_cases h : x0 = 0 ∧ (((b0.toNat : Nat) : Int) == 45) = true
    · rw [if_pos h, if_pos (by rw [h.1, h.2]; rfl)]
    · rw [if_neg h, if_neg (fun h2 => h (by simpa using h2))]
  rw [hQ] at hZ
  have hsz := HX.out.2.2.2.2.1
  have hs1 : 1 ≤ s.size := by rw [hsz, hb0]; simp
  have HZ := Lib.hid (⟨hZ, hZb, print_len x0 hxf' k HK.out⟩ : _ ∧ _ ∧ _)
  have j1 : (0 : Int) ≤ 1 ∧ (1 : Int) ≤ (s.size : Int) := by omega
  have HM := Lib.hid hm
  clear hno hx0 hxf hxf' hx0' hne hZ hZb hQ hbm hsz hb0 hm
  go_wp2_with fail
  refine ((HPB _ (HT.out.keep O4.out)).out).mono ?_
  rintro e w5 ⟨bb, rfl, hbb, o5⟩
  have O5 := Lib.hid (O4.out.trans o5)
  have HBB := Lib.hid hbb
  clear hbb o5
  obtain ⟨Q, hQe⟩ : ∃ Q, Q = (if m then S.tail else S) := ⟨_, rfl⟩
  have HQ := Lib.hid hQe
  clear hQe
  go_upto_region 15 with fail
  go_cut [125] from 119 to 125 (fun s125 wx => s125 = .bool m ∧ wx = w5)
  case first =>
    by_cases hx : x0 = 0
    · have t6 : (x0 == 0) = true := by simpa using hx
      have hm2 : (((b0.toNat : Nat) : Int) == 45) = m := by rw [← HM.out, t6]; rfl
      clear hx
      go_wp2_with fail
      go_meet
      exact ⟨rfl, rfl⟩
    · have t6 : (x0 == 0) = false := by simpa using hx
      obtain rfl : m = false := by rw [← HM.out, t6]; rfl
      clear hx
      go_wp2_with fail
      go_meet
      exact ⟨rfl, rfl⟩
  case rest =>
  obtain ⟨rfl, hwc⟩ := hcut
  obtain ⟨W7, hW7⟩ : ∃ W7, W7 = wc := ⟨_, rfl⟩
  rw [← hW7] at hwc ⊢
  clear hW7
  subst hwc
  go_upto_if 125 with fail
  go_cut [0] from 126 to 127 (fun s0 wx => BkP Q W7 s0 wx)
  case first =>
    cases m with
    | true =>
      go_wp2_with fail
      go_meet
      refine ⟨⟨_, rfl, ?_, rfl⟩⟩
      rw [list_ext, ← HX.out.2.2.2.1, HX.out.2.2.2.2.1, HQ.out, List.take_length]
      simp
    | false =>
      go_wp2_with fail
      go_meet
      refine ⟨⟨_, rfl, ?_, rfl⟩⟩
      rw [← HX.out.2.2.2.1, HQ.out]
      simp
  case rest =>
  obtain ⟨⟨q, rfl, hq, hwc⟩⟩ := hcut
  obtain ⟨W6, hW6⟩ : ∃ W6, W6 = wc := ⟨_, rfl⟩
  rw [← hW6] at hwc ⊢
  clear hW6
  subst hwc
  have hbl : bb.data.toList = Q ++ Z := by rw [HBB.out, HZ.out.1, HQ.out]
  have hqs := size_list q
  have hbs := size_list bb
  rw [hq] at hqs
  rw [hbl, List.length_append] at hbs
  have hb40 : bb.size ≤ 40 := by rw [size_list, HBB.out]; exact HZ.out.2.2
  have hqb : q.size ≤ bb.size := by omega
  have hex : bb.extract 0 q.size = q := by
    have h1 : (bb.extract 0 q.size).data.toList = q.data.toList := by rw [list_ext, List.drop_zero, hbl, hq, hqs, List.take_left]
    rw [bytes_of h1]
  have t7 : decide (bb.size < q.size) = false := decide_eq_false (by omega)
  have t8 : ((bb.extract 0 q.size).toList == q.toList) = true := by rw [hex]; simp
  have t9 : (!((bb.extract 0 q.size).toList == q.toList)) = false := by rw [t8]; rfl
  have j3 : (0 : Int) ≤ (q.size : Int) ∧ (q.size : Int) ≤ (bb.size : Int) := by omega
  have HY := Lib.hid (⟨hq, hbl, hqs, hbs⟩ : _ ∧ _ ∧ _ ∧ _)
  clear hq hbl hqs hbs hex
  go_wp2_with fail
  clear t7 t8 t9
  go_loop [21] (fun i => ∃ j : Nat, q.size ≤ j ∧ j ≤ bb.size ∧ i = .int .i64 j) (fun i => bb.size - (intOf i).toNat)
  case atStart => exact ⟨_, Nat.le_refl _, hqb, rfl⟩
  case round =>
    obtain ⟨j, hj1, hj2, rfl⟩ := hrel
    by_cases hlt : j < bb.size
    · have t10 : decide (j < bb.size) = true := decide_eq_true hlt
      obtain ⟨y, hy⟩ : ∃ y, Z[j - q.size]? = some y := ⟨_, List.getElem?_eq_getElem (by have := HY.out.2.2; omega)⟩
      have hy2 : bb.data.toList[j]? = some y := by
        rw [HY.out.2.1, List.getElem?_append_right (by have := HY.out.2.2.1; omega), ← HY.out.2.2.1]
        exact hy
      have hix := fun W => idx_at (r := bb) (i := j) (b := y) hy2 W
      have w11 : IntKind.i64.wrap ((j : Int) + 1) = (j : Int) + 1 := by rw [IntKind.wrap_i64]; omega
      rcases HZ.out.2.1 _ y hy with rfl | ⟨rfl, hj0⟩
      · have e48 : (((48 : UInt8).toNat : Nat) : Int) = 48 := rfl
        rw [e48] at hix
        clear hy hy2
        go_wp2_with fail
        go_round
        case rel => exact ⟨j + 1, by omega, by omega, by go_num⟩
        case measure => simp [intOf]; omega
      · have e46 : (((46 : UInt8).toNat : Nat) : Int) = 46 := rfl
        rw [e46] at hix
        have t11 : decide (q.size < j) = false := decide_eq_false (by omega)
        clear hy hy2 hj0
        go_wp2_with fail
        go_round
        case rel => exact ⟨j + 1, by omega, by omega, by go_num⟩
        case measure => simp [intOf]; omega
    · have t10 : decide (j < bb.size) = false := decide_eq_false hlt
      go_wp2_with fail
      go_returns
      exact ⟨rfl, O5.out⟩
end Go.Proofs.YtkpndnjnckaanaaDoor
