/- Decimal: Parse. Conditions: a text of at most 2^30 bytes. -/
import Derived.Test.YtkpndnjnckaanaaDoorDm5
namespace Go.Proofs.YtkpndnjnckaanaaDoor
set_option linter.unusedVariables false
set_option linter.unusedSimpArgs false
open Go.RowKit Go.Shelf

theorem idx_at {r : ByteArray} {i : Nat} {b : UInt8} (h : r.data.toList[i]? = some b) (W : World) : (Instr.index 9 (.string r) (.int .i64 (i : Int))).run Tryd.prog W = .ok (.int .u8 ((b.toNat : Nat) : Int)) W := by
  have hlt : i < r.size := by rw [size_list]; exact (List.getElem?_eq_some_iff.1 h).1
  rw [run_index_string W _ _ _ _ (by kernel_rfl), dif_pos (by omega)]
  have e : r[((i : Nat) : Int).toNat]'(by omega) = b := by
    have h2 := (List.getElem?_eq_some_iff.1 h).2
    rw [← h2]
    rfl
  rw [e]
theorem valD_take_le : ∀ (l : List UInt8) (i : Nat), (∀ b ∈ l, isD b = true) → valD (l.take i) ≤ valD l := by
  intro l i hd
  induction h : l.length - i generalizing i with
  | zero => rw [List.take_of_length_le (by omega)]; exact Nat.le_refl _
  | succ n ih =>
    have h1 := ih (i + 1) (by omega)
    have hi : i < l.length := by omega
    rw [List.take_succ_eq_append_getElem hi, valD_snoc] at h1
    omega
theorem valD_next {l : List UInt8} {i : Nat} {b : UInt8} (h : l[i]? = some b) : valD (l.take (i + 1)) = 10 * valD (l.take i) + (b.toNat - 48) := by
  obtain ⟨hi, hb⟩ := List.getElem?_eq_some_iff.1 h
  rw [List.take_succ_eq_append_getElem hi, valD_snoc, hb]
theorem fits_less {m : Bool} {v v' : Nat} (h : v ≤ v') (hf : fits64 (sgnV m v') = true) : fits64 (sgnV m v) = true := by
  have h1 : -9223372036854775808 ≤ sgnV m v' ∧ sgnV m v' ≤ 9223372036854775807 := of_decide_eq_true hf
  refine decide_eq_true ?_
  unfold sgnV at h1 ⊢
  cases m
  · rw [if_neg (by decide)] at h1 ⊢; omega
  · rw [if_pos rfl] at h1 ⊢; omega
theorem fits_more {m : Bool} {v v' : Nat} (h : v ≤ v') (hf : fits64 (sgnV m v) = false) : fits64 (sgnV m v') = false := by
  cases h2 : fits64 (sgnV m v') with
  | false => rfl
  | true => rw [fits_less h h2] at hf; cases hf
theorem digR_digits {r : List UInt8} {p : Nat} (h : wrongR r p = none) : ∀ b ∈ digR r p, isD b = true := by
  have hdg : dg r ≠ 0 := fun h0 => by unfold wrongR at h; rw [if_pos h0] at h; cases h
  obtain ⟨A, B, he, w⟩ : ∃ A B, r = A ++ B ∧ Whl A B := ⟨_, _, (List.take_append_drop _ _).symm, whl_of hdg⟩
  rw [he] at h ⊢
  rw [w.wrong] at h
  rw [w.digs]
  have hB : ∀ b ∈ B.tail, isD b = true := by
    by_cases h0 : B = []
    · rw [h0]; intro b hb; simp at hb
    · rw [if_neg h0] at h
      by_cases h1 : p = 0 ∨ B.head? ≠ some 46
      · rw [if_pos h1] at h; cases h
      · rw [if_neg h1] at h
        by_cases h2 : min (dg B.tail) p = 0 ∨ min (dg B.tail) p + 1 < B.length
        · rw [if_pos h2] at h; cases h
        · cases B with
          | nil => exact absurd rfl h0
          | cons b u =>
            simp only [List.tail_cons, List.length_cons] at h2 ⊢
            have hle := dg_le u
            have hdu : dg u = u.length := by omega
            have := dg_digits u
            rwa [hdu, List.take_length] at this
  intro b hb
  rcases List.mem_append.1 hb with hb | hb
  · rcases List.mem_append.1 hb with hb | hb
    · exact w.dig b hb
    · exact hB b hb
  · rw [(List.mem_replicate.1 hb).2]; rfl
theorem sgn_ten (m : Bool) (v : Nat) : sgnV m v * 10 = sgnV m (10 * v) := by unfold sgnV; split <;> omega
theorem sgn_add (m : Bool) (v x : Nat) : sgnV m v + sgnV m x = sgnV m (v + x) := by unfold sgnV; split <;> omega
theorem sum_next {L : List UInt8} {j : Nat} {b : UInt8} (h : L[j]? = some b) (m : Bool) : sgnV m (valD (L.take j)) * 10 + sgnV m (b.toNat - 48) = sgnV m (valD (L.take (j + 1))) := by
  rw [sgn_ten, sgn_add, valD_next h]
theorem sum_bad {L : List UInt8} {j : Nat} {b : UInt8} (h : L[j]? = some b) (hd : ∀ b ∈ L, isD b = true) {m : Bool} (hf : fits64 (sgnV m (valD (L.take j)) * 10) = false) : fits64 (sgnV m (valD L)) = false := by
  rw [sgn_ten] at hf
  refine fits_more ?_ hf
  have h1 := valD_take_le L (j + 1) hd
  rw [valD_next h] at h1
  omega
theorem sum_bad2 {L : List UInt8} {j : Nat} (hd : ∀ b ∈ L, isD b = true) {m : Bool} (hf : fits64 (sgnV m (valD (L.take j))) = false) : fits64 (sgnV m (valD L)) = false :=
  fits_more (valD_take_le L j hd) hf
theorem fits_small {x : Nat} (h : x ≤ 9) (m : Bool) : fits64 (sgnV m x) = true := decide_eq_true (by unfold sgnV; split <;> omega)
/-- What stands when the digits are gathered. -/
structure DgP (P : Prop) (L : List UInt8) (q : Nat) (w : World) (v1 v12 : Value) (wx : World) : Prop where
  ok : P
  ex : ∃ (d : ByteArray) (c : Nat), v1 = .int .i64 (c : Int) ∧ v12 = .string d ∧ d.data.toList ++ List.replicate c 48 = L ∧ c ≤ 9 ∧ d.size ≤ 4000000000 ∧ Gw w wx

set_option maxRecDepth 100000 in
set_option maxHeartbeats 8000000 in
theorem d_parse (s : ByteArray) (p : Int) (hs : s.size ≤ 1073741825) (w : World) : Calls Tryd.prog 8 #[.string s, .int .i64 p] w fun e w' => e = .returned (.tuple #[.int .i64 (parseI s.data.toList p).1, .int .i64 (parseI s.data.toList p).2.1, .int .i64 (parseI s.data.toList p).2.2]) ∧ Gw w w' := by
  have HM := fun W => Lib.hid (d_may p W)
  by_cases hp : 0 ≤ p ∧ p ≤ 9
  case neg =>
    have e : parseI s.data.toList p = (0, 1, 0) := if_neg hp
    rw [e]
    simp only
    rw [decide_eq_false hp] at HM
    clear hp e hs
    go_enter Tryd.func8, Tryd.ntmps8
    go_wp2_with fail
    refine (HM _).out.mono ?_
    rintro e w1 ⟨rfl, rfl⟩
    go_wp2_with fail
    go_returns
    exact ⟨rfl, Gw.refl _⟩
  case pos =>
  rw [decide_eq_true hp] at HM
  have e : parseI s.data.toList p = parseC s.data.toList p.toNat := if_pos hp
  rw [e]
  obtain ⟨k, rfl⟩ : ∃ k : Nat, p = k := ⟨p.toNat, by omega⟩
  have ek : ((k : Int)).toNat = k := rfl
  rw [ek]
  have hk9 : k ≤ 9 := by omega
  clear hp e ek
  obtain ⟨S, hS⟩ : ∃ S, S = s.data.toList := ⟨_, rfl⟩
  rw [← hS]
  have HCUT := fun W => Lib.hid (d_cut s W)
  rw [← hS] at HCUT
  obtain ⟨m, hm⟩ : ∃ m, m = minusOf S := ⟨_, rfl⟩
  rw [← hm] at HCUT
  obtain ⟨R, hR⟩ : ∃ R, R = restOf S := ⟨_, rfl⟩
  rw [← hR] at HCUT
  have hsl := size_list s
  rw [← hS] at hsl
  have hah := ahd_len S
  rw [← hR] at hah
  obtain ⟨a, ha⟩ : ∃ a, a = ahd S := ⟨_, rfl⟩
  rw [← ha] at hah
  -- the answer
  obtain ⟨ans, hans⟩ : ∃ ans, ans = parseC S k := ⟨_, rfl⟩
  rw [← hans]
  have hwr : ∀ x, wrongR R k = some x → ans = (0, 20, ((a + x : Nat) : Int)) := fun x hx => by
    rw [hans]
    unfold parseC wrongC
    rw [← hR, hx, ← ha]
    rfl
  have hrt : wrongR R k = none → ans = if fits64 (sgnV m (valD (digR R k))) then (sgnV m (valD (digR R k)), 0, 0) else (0, 21, 0) := fun hx => by
    rw [hans]
    unfold parseC wrongC
    rw [← hR, hx, ← hm]
    rfl
  have HA := Lib.hid (⟨hwr, hrt⟩ : _ ∧ _)
  have ha1 : a ≤ 1 := by rw [ha]; unfold ahd; split <;> omega
  clear hS hm hR ha hans hwr hrt
  obtain ⟨x0, x1, x2⟩ := ans
  simp only
  go_enter Tryd.func8, Tryd.ntmps8
  go_wp2_with fail
  refine (HM _).out.mono ?_
  rintro e w1 ⟨rfl, rfl⟩
  go_wp2_with fail
  refine (HCUT _).out.mono ?_
  rintro e w2 ⟨r, rfl, hr, rfl⟩
  have hrs := size_list r
  rw [hr] at hrs
  have HRUN := fun W => Lib.hid (d_run r (by omega) W)
  rw [hr] at HRUN
  have ww1 : IntKind.i64.wrap ((s.size : Int) - (r.size : Int)) = (a : Int) := by rw [IntKind.wrap_i64]; omega
  obtain ⟨n0, hn0⟩ : ∃ n0, n0 = dg R := ⟨_, rfl⟩
  rw [← hn0] at HRUN
  have HR := Lib.hid (⟨hr, hrs, hn0, hsl, hah⟩ : _ ∧ _ ∧ _ ∧ _ ∧ _)
  have hrb : r.size ≤ 1073741825 := by omega
  clear hr hrs hn0 hsl hah
  go_wp2_with fail
  refine (HRUN _).out.mono ?_
  rintro e w1 ⟨rfl, o1⟩
  have HO1 := Lib.hid o1
  clear o1
  by_cases h0 : n0 = 0
  · have t0 : ((n0 : Int) == 0) = true := by simp; omega
    have hx := HA.out.1 0 (by unfold wrongR; rw [if_pos (by rw [← HR.out.2.2.1]; exact h0)])
    simp only [Prod.mk.injEq] at hx
    obtain ⟨rfl, rfl, rfl⟩ := hx
    have HW := fun W => Lib.hid (d_wrong (a : Int) W)
    clear h0
    go_wp2_with fail
    refine (HW _).out.mono ?_
    rintro e w1 ⟨rfl, rfl⟩
    go_wp2_with fail
    go_returns
    exact ⟨rfl, HO1.out⟩
  · have t0 : ((n0 : Int) == 0) = false := by simp; omega
    have hdg : dg R ≠ 0 := by rw [← HR.out.2.2.1]; exact h0
    have hRne : R ≠ [] := fun h => hdg (by rw [h]; rfl)
    obtain ⟨b0, t', hRb⟩ : ∃ b t, R = b :: t := by
      cases R with
      | nil => exact absurd rfl hRne
      | cons b t => exact ⟨b, t, rfl⟩
    have hix := fun W => idx_at (r := r) (i := 0) (b := b0) (by rw [HR.out.1, hRb]; rfl) W
    have e0 : ((0 : Nat) : Int) = 0 := rfl
    rw [e0] at hix
    obtain ⟨z, hz⟩ : ∃ z, (((b0.toNat : Nat) : Int) == 48) = z := ⟨_, rfl⟩
    have hzn : nOf R = if z then 1 else n0 := by
      unfold nOf
      rw [HR.out.2.2.1, hRb]
      have : ((b0 :: t').head? = some 48) ↔ z = true := by
        rw [← hz]
        simp only [List.head?_cons, Option.some.injEq, beq_iff_eq]
        constructor
        · intro h; rw [h]; rfl
        · intro h; exact UInt8.toNat_inj.1 (by show b0.toNat = 48; omega)
      by_cases hzt : z = true
      · rw [if_pos (this.2 hzt), if_pos hzt]
      · rw [if_neg (fun h => hzt (this.1 h)), if_neg hzt]
    have hr0 : 0 < r.size := by rw [HR.out.2.1, hRb]; simp
    have HZ := Lib.hid (⟨hdg, hzn⟩ : _ ∧ _)
    clear hdg hRne hzn h0
    go_upto_if 46 with fail
    obtain ⟨c, hc⟩ : ∃ c : Nat, c = if z then 1 else n0 := ⟨_, rfl⟩
    have HC := Lib.hid hc
    clear hc hz
    go_cut [11] from 47 to 47 (fun s11 wx => s11 = .int .i64 (c : Int) ∧ wx = w1)
    case first =>
      cases z with
      | true =>
        go_wp2_with fail
        go_meet
        exact ⟨by rw [HC.out]; rfl, rfl⟩
      | false =>
        go_wp2_with fail
        go_meet
        exact ⟨by rw [HC.out]; rfl, rfl⟩
    case rest =>
    obtain ⟨rfl, hwc⟩ := hcut
    obtain ⟨W2, hW2⟩ : ∃ W2, W2 = wc := ⟨_, rfl⟩
    rw [← hW2] at hwc ⊢
    subst hwc
    clear hW2
    have hcn : c = nOf R := by rw [HC.out, HZ.out.2]
    have hcr : c ≤ r.size := by
      rw [HR.out.2.1, hcn]
      have h1 := dg_le R
      have h2 : 0 < R.length := by rw [hRb]; simp
      unfold nOf
      split <;> omega
    have w := whl_of HZ.out.1
    rw [← hcn] at w
    have i1 : (0 : Int) ≤ (c : Int) ∧ (c : Int) ≤ (r.size : Int) := by omega
    have HCN := Lib.hid (⟨hcn, w⟩ : _ ∧ _)
    clear hcn w hix hr0 hRb
    go_upto_region 11 with fail
    go_quiet (fail)
    obtain ⟨A, hA⟩ : ∃ A, r.extract 0 c = A := ⟨_, rfl⟩
    obtain ⟨B, hB⟩ : ∃ B, r.extract c r.size = B := ⟨_, rfl⟩
    have hAl : A.data.toList = R.take c := by rw [← hA, list_ext, HR.out.1, List.drop_zero]
    have hBl : B.data.toList = R.drop c := by rw [← hB, list_ext, HR.out.1, HR.out.2.1, List.take_length]
    rw [hA, hB]
    obtain ⟨W3, hW3⟩ : ∃ W3, W2.drewN nq = W3 := ⟨_, rfl⟩
    have o3 : Gw w W3 := by rw [← hW3]; exact HO1.out.trans (Go.Joins.below_draws _ _ _)
    have HAB := Lib.hid (⟨hAl, hBl, o3⟩ : _ ∧ _ ∧ _)
    clear hA hB hAl hBl o3
    rw [hW3]
    clear hW3
    obtain ⟨eb, heb⟩ : ∃ eb, B.toList.isEmpty = eb := ⟨_, rfl⟩
    have HEB := Lib.hid heb
    have hAs : A.size ≤ 1073741825 := by rw [size_list, HAB.out.1, List.length_take]; have := HR.out.2.1; omega
    have hBs : B.size ≤ 1073741825 := by rw [size_list, HAB.out.2.1, List.length_drop]; have := HR.out.2.1; omega
    have HW := fun x W => Lib.hid (d_wrong x W)
    go_upto_if 54 with fail
    clear heb
    go_cut [1, 12] from 55 to 101 (fun s1 s12 wx => DgP (wrongR R k = none) (digR R k) k w s1 s12 wx)
    case first =>
      have hwr := HCN.out.2.wrong k
      have hdr := HCN.out.2.digs k
      rw [List.take_append_drop] at hwr hdr
      cases eb with
      | true =>
        have hB0 : R.drop c = [] := by
          rw [← HAB.out.2.1, ← Lib.toList_data]
          exact List.isEmpty_iff.1 HEB.out
        have HD := Lib.hid (show A.data.toList ++ List.replicate k 48 = digR R k by rw [hdr, hB0, HAB.out.1]; simp)
        have HNO := Lib.hid (show wrongR R k = none by rw [hwr, if_pos hB0])
        clear hwr hdr hB0
        go_wp2_with fail
        go_meet
        exact ⟨HNO.out, ⟨A, k, rfl, rfl, HD.out, hk9, by omega, HAB.out.2.2⟩⟩
      | false =>
        obtain ⟨bb, u, hBu⟩ : ∃ bb u, R.drop c = bb :: u := by
          cases hq : R.drop c with
          | nil =>
            have h1 := HEB.out
            rw [Lib.toList_data, HAB.out.2.1, hq] at h1; cases h1
          | cons b t => exact ⟨b, t, rfl⟩
        rw [hBu] at hwr hdr
        have hal : (R.take c).length = c := by rw [List.length_take]; have := HR.out.2.1; omega
        rw [hal] at hwr
        have hix := fun W => idx_at (r := B) (i := 0) (b := bb) (by rw [HAB.out.2.1, hBu]; rfl) W
        have e0 : ((0 : Nat) : Int) = 0 := rfl
        rw [e0] at hix
        obtain ⟨v1, hv1⟩ : ∃ v1 : Int, v1 = ((a + c : Nat) : Int) := ⟨_, rfl⟩
        have ww2 : IntKind.i64.wrap ((a : Int) + (c : Int)) = v1 := by rw [IntKind.wrap_i64]; omega
        by_cases h46 : k = 0 ∨ bb ≠ 46
        · have hx := HA.out.1 c (by rw [hwr, if_neg (by simp), if_pos (by simpa using h46)])
          simp only [Prod.mk.injEq] at hx
          obtain ⟨rfl, rfl, hx2⟩ := hx
          obtain rfl : x2 = v1 := by omega
          have HW := fun W => HW x2 W
          clear hx2 hv1
          by_cases hk0 : k = 0
          · have t1 : ((k : Int) == 0) = true := by simp; omega
            clear hwr hdr h46 hk0 hal
            go_wp2_with fail
            refine (HW _).out.mono ?_
            rintro e w1 ⟨rfl, rfl⟩
            go_wp2_with fail
            go_returns
            exact ⟨rfl, HAB.out.2.2⟩
          · have t1 : ((k : Int) == 0) = false := by simp; omega
            have t2 : (((bb.toNat : Nat) : Int) != 46) = true := by
              have : bb ≠ 46 := h46.resolve_left hk0
              have h2 : bb.toNat ≠ 46 := fun h => this (UInt8.toNat_inj.1 h)
              simp; omega
            clear hwr hdr h46 hk0 hal
            go_wp2_with fail
            refine (HW _).out.mono ?_
            rintro e w1 ⟨rfl, rfl⟩
            go_wp2_with fail
            go_returns
            exact ⟨rfl, HAB.out.2.2⟩
        · have hk0 : k ≠ 0 := fun h => h46 (.inl h)
          obtain rfl : bb = 46 := Classical.byContradiction fun h => h46 (.inr h)
          have t1 : ((k : Int) == 0) = false := by simp; omega
          rw [if_neg (by simp), if_neg (by simpa using hk0), List.tail_cons] at hwr
          rw [List.tail_cons] at hdr
          have hBsz : B.size = u.length + 1 := by rw [size_list, HAB.out.2.1, hBu, List.length_cons]
          have i3 : (0 : Int) ≤ 1 ∧ (1 : Int) ≤ (B.size : Int) := by omega
          obtain ⟨U, hU⟩ : ∃ U, B.extract 1 B.size = U := ⟨_, rfl⟩
          have hUl : U.data.toList = u := by rw [← hU, list_ext, HAB.out.2.1, hBu, hBsz]; simp
          have hUs : U.size = u.length := by rw [size_list, hUl]
          have HRU := fun W => Lib.hid (d_run U (by omega) W)
          rw [hUl] at HRU
          obtain ⟨gu, hgu⟩ : ∃ gu, gu = dg u := ⟨_, rfl⟩
          have hgl := dg_le u
          rw [← hgu] at HRU hwr hgl
          obtain ⟨kk, hkk⟩ : ∃ kk, kk = min gu k := ⟨_, rfl⟩
          simp only [← hkk] at hwr
          have HU := Lib.hid (⟨hU, hUl, hUs, hBsz, hgu, hwr, hdr, hkk⟩ : _ ∧ _ ∧ _ ∧ _ ∧ _ ∧ _ ∧ _ ∧ _)
          have hUs2 : U.size ≤ 1073741825 := by omega
          have HMIN := Lib.hid (show min (gu : Int) (k : Int) = (kk : Int) by omega)
          clear hkk
          clear hwr hdr h46 hk0 hal hU hUl hUs hgu hBsz
          go_upto_region 15 with fail
          go_wp2_with fail
          rw [HU.out.1]
          refine (HRU _).out.mono ?_
          rintro e w4 ⟨rfl, o4⟩
          have HO4 := Lib.hid (HAB.out.2.2.trans o4)
          clear o4
          obtain ⟨lb, hlb⟩ : ∃ lb, lb = u.length := ⟨_, rfl⟩
          have hkb : kk ≤ 9 ∧ kk ≤ lb ∧ kk ≤ k := by have := HU.out.2.2.2.2.2.2.2; omega
          have hB1 : B.size = lb + 1 := by rw [hlb]; exact HU.out.2.2.2.1
          have HLB := Lib.hid hlb
          clear hlb
          obtain ⟨bad, hbd⟩ : ∃ bad, decide (kk = 0 ∨ kk < lb) = bad := ⟨_, rfl⟩
          go_upto_region 16 with fail
          rw [HMIN.out]
          go_cut [83] from 75 to 83 (fun s83 wx => s83 = .bool bad ∧ wx = w4)
          case first =>
            have ww3 : IntKind.i64.wrap ((kk : Int) + 1) = (kk : Int) + 1 := by rw [IntKind.wrap_i64]; omega
            by_cases hk0 : kk = 0
            · have t2 : ((kk : Int) == 0) = true := by simp; omega
              obtain rfl : bad = true := by rw [← hbd]; exact decide_eq_true (.inl hk0)
              clear hbd hk0
              go_wp2_with fail
              go_meet
              exact ⟨rfl, rfl⟩
            · have t2 : ((kk : Int) == 0) = false := by simp; omega
              by_cases hkl : kk < lb
              · have t3 : decide ((kk : Int) + 1 < (B.size : Int)) = true := by simp; omega
                obtain rfl : bad = true := by rw [← hbd]; exact decide_eq_true (.inr hkl)
                clear hbd hk0
                go_wp2_with fail
                go_meet
                exact ⟨rfl, rfl⟩
              · have t3 : decide ((kk : Int) + 1 < (B.size : Int)) = false := by simp; omega
                obtain rfl : bad = false := by rw [← hbd]; exact decide_eq_false (by omega)
                clear hbd hk0
                go_wp2_with fail
                go_meet
                exact ⟨rfl, rfl⟩
          case rest =>
          obtain ⟨rfl, hwc⟩ := hcut
          obtain ⟨w5, hw5⟩ : ∃ W, W = wc := ⟨_, rfl⟩
          rw [← hw5] at hwc ⊢
          subst hwc
          clear hw5
          cases bad with
          | true =>
            have hbad := of_decide_eq_true hbd
            have hx := HA.out.1 (c + 1 + kk) (by rw [HU.out.2.2.2.2.2.1, if_pos (by rw [List.length_cons, ← HLB.out]; omega)])
            simp only [Prod.mk.injEq] at hx
            obtain ⟨rfl, rfl, hx2⟩ := hx
            have HW := fun W => HW x2 W
            obtain ⟨v2, hv2⟩ : ∃ v2 : Int, v2 = ((a + c + 1 : Nat) : Int) := ⟨_, rfl⟩
            have ww4 : IntKind.i64.wrap (v1 + 1) = v2 := by rw [IntKind.wrap_i64]; omega
            have ww5 : IntKind.i64.wrap (v2 + (kk : Int)) = x2 := by rw [IntKind.wrap_i64]; omega
            clear hbad hv1 hv2 hx2 hbd hkb hB1
            go_wp2_with fail
            refine (HW _).out.mono ?_
            rintro e w1 ⟨rfl, rfl⟩
            go_wp2_with fail
            go_returns
            exact ⟨rfl, HO4.out⟩
          | false =>
            have hbad := of_decide_eq_false hbd
            have hke : kk = lb := by omega
            have ww4 : IntKind.i64.wrap ((k : Int) - (kk : Int)) = ((k - kk : Nat) : Int) := by rw [IntKind.wrap_i64]; omega
            have hsum : ¬ (A.size + U.size > 9223372036854775807) := by omega
            have HD := Lib.hid (show (A ++ U).data.toList ++ List.replicate (k - kk) 48 = digR R k by rw [HU.out.2.2.2.2.2.2.1, list_app, HAB.out.1, HU.out.2.1, hke, HLB.out])
            have hadd : (A ++ U).size ≤ 4000000000 := by rw [ByteArray.size_append']; omega
            have HADD := Lib.hid hadd
            have HNO := Lib.hid (show wrongR R k = none by rw [HU.out.2.2.2.2.2.1, if_neg (by rw [List.length_cons, ← HLB.out]; omega)])
            have HUU := Lib.hid HU.out.1
            obtain ⟨ck, hck⟩ : ∃ ck, ck = k - kk := ⟨_, rfl⟩
            rw [← hck] at ww4 HD
            have HCK := Lib.hid (show ck ≤ 9 by omega)
            clear hbad hadd hv1 hck hbd hke hkb hB1
            go_upto_region 18 with fail
            go_wp2_with fail
            rw [HUU.out]
            go_meet
            exact ⟨HNO.out, ⟨A ++ U, ck, rfl, rfl, HD.out, HCK.out, HADD.out, HO4.out⟩⟩
    case rest =>
    obtain ⟨hno, ⟨d, c2, rfl, rfl, hdL, hc2, hds, o6⟩⟩ := hcut
    obtain ⟨W6, hW6⟩ : ∃ W6, W6 = wc := ⟨_, rfl⟩
    rw [← hW6] at o6 ⊢
    clear hW6
    have HREP := fun W => Lib.hid (d_rep c2 (by omega) W)
    have hld := digR_digits hno
    have hans := HA.out.2 hno
    obtain ⟨L, hL⟩ : ∃ L, L = digR R k := ⟨_, rfl⟩
    rw [← hL] at hdL hld hans
    have HL := Lib.hid (⟨hdL, o6, hld, hans⟩ : _ ∧ _ ∧ _ ∧ _)
    clear hdL o6 hno hld hans hL HA HC HZ HCN HAB HEB HR
    go_wp2_with fail
    refine (HREP _).out.mono ?_
    rintro e w7 ⟨z, rfl, hz, o7⟩
    have hzs := size_list z
    rw [hz, List.length_replicate] at hzs
    have hsum : ¬ (d.size + z.size > 9223372036854775807) := by omega
    obtain ⟨T, hT⟩ : ∃ T, d ++ z = T := ⟨_, rfl⟩
    have hTl : T.data.toList = L := by rw [← hT, list_app, hz, HL.out.1]
    have hTs : T.size ≤ 5000000000 := by rw [← hT, ByteArray.size_append']; omega
    have HT := Lib.hid (⟨hTl, HL.out.2.1.trans o7⟩ : _ ∧ _)
    have HTT := Lib.hid hT
    clear hz o7 hzs hTl hT
    go_upto_region 21 with fail
    rw [HTT.out]
    go_wp2_with fail
    have hw7 : T.size ≤ 5000000000 := hTs
    go_loop [14, 108] (fun s i => ∃ j : Nat, j ≤ T.size ∧ i = .int .i64 j ∧ fits64 (sgnV m (valD (L.take j))) = true ∧ s = .int .i64 (sgnV m (valD (L.take j)))) (fun _ i => T.size - (intOf i).toNat)
    case atStart => exact ⟨0, Nat.zero_le _, rfl, by cases m <;> rfl, by cases m <;> rfl⟩
    case round =>
      obtain ⟨j, hj, rfl, hfit, rfl⟩ := hrel
      obtain ⟨sm, hsm⟩ : ∃ sm, sm = sgnV m (valD (L.take j)) := ⟨_, rfl⟩
      rw [← hsm] at hfit ⊢
      have hTL := HT.out.1
      have hsz := size_list T
      rw [hTL] at hsz
      by_cases hlt : j < T.size
      · obtain ⟨b, hb⟩ : ∃ b, L[j]? = some b := ⟨_, List.getElem?_eq_getElem (by omega)⟩
        have hix := fun W => idx_at (r := T) (i := j) (b := b) (by rw [hTL]; exact hb) W
        have hbd : isD b = true := HL.out.2.2.1 b (List.mem_of_getElem? hb)
        have hbb : 48 ≤ b.toNat ∧ b.toNat ≤ 57 := of_decide_eq_true hbd
        obtain ⟨x, hx⟩ : ∃ x : Nat, x = b.toNat - 48 := ⟨_, rfl⟩
        have HNX := Lib.hid (sum_next hb m)
        have HB1 := Lib.hid (fun hf => sum_bad hb HL.out.2.2.1 (m := m) hf)
        have HB2 := Lib.hid (fun hf => sum_bad2 (j := j + 1) HL.out.2.2.1 (m := m) hf)
        rw [← hx, ← hsm] at HNX
        rw [← hsm] at HB1
        have hx9 : x ≤ 9 := by omega
        have w8 : IntKind.u8.wrap (((b.toNat : Nat) : Int) - 48) = (x : Int) := by rw [IntKind.wrap_u8]; omega
        have w9 : IntKind.i64.wrap (x : Int) = (x : Int) := by rw [IntKind.wrap_i64]; omega
        have w10 : IntKind.i64.wrap (-(x : Int)) = -(x : Int) := by rw [IntKind.wrap_i64]; omega
        have w11 : IntKind.i64.wrap ((j : Int) + 1) = (j : Int) + 1 := by rw [IntKind.wrap_i64]; omega
        obtain ⟨dd, hdd⟩ : ∃ dd, dd = sgnV m x := ⟨_, rfl⟩
        rw [← hdd] at HNX
        have hdf := fits_small hx9 m
        rw [← hdd] at hdf
        have hlt2 : decide (j < T.size) = true := decide_eq_true hlt
        have hdm : (m = true ∧ dd = -(x : Int)) ∨ (m = false ∧ dd = (x : Int)) := by
          cases m with
          | true => left; exact ⟨rfl, hdd⟩
          | false => right; exact ⟨rfl, hdd⟩
        obtain ⟨f1, hf1⟩ : ∃ f, fits64 (sm * 10) = f := ⟨_, rfl⟩
        have HM1 := fun W => f_mul10 sm hfit W
        cases f1 with
        | false =>
          have HA1 := fun W => Lib.hid (f_add 0 dd (by decide) hdf W)
          unfold tellV at HM1 HA1
          rw [Int.zero_add, hdf] at HA1
          rw [hf1] at HM1
          simp only [if_true, Bool.false_eq_true, if_false] at HM1 HA1
          have HM1 := fun W => Lib.hid (HM1 W)
          have hans := HL.out.2.2.2
          rw [HB1.out hf1] at hans
          simp only [Bool.false_eq_true, if_false, Prod.mk.injEq] at hans
          obtain ⟨rfl, rfl, rfl⟩ := hans
          have HJ := Lib.hid hj
          clear hf1 hsm hb hbd hbb hx hdd hdf hfit hj hTL hsz
          rcases hdm with ⟨rfl, rfl⟩ | ⟨rfl, rfl⟩
          all_goals
            go_wp2_with fail
            refine (HM1 _).out.mono ?_
            rintro e w8 ⟨rfl, rfl⟩
            go_wp2_with fail
            refine (HA1 _).out.mono ?_
            rintro e w8 ⟨rfl, rfl⟩
            go_wp2_with fail
            go_returns
            exact ⟨rfl, HT.out.2⟩
        | true =>
          have HA1 := fun W => f_add (sm * 10) dd hf1 hdf W
          obtain ⟨f2, hf2⟩ : ∃ f, fits64 (sm * 10 + dd) = f := ⟨_, rfl⟩
          unfold tellV at HM1 HA1
          rw [hf1] at HM1
          simp only [if_true] at HM1
          have HM1 := fun W => Lib.hid (HM1 W)
          obtain ⟨tn, htn⟩ : ∃ tn, tn = sm * 10 := ⟨_, rfl⟩
          obtain ⟨al, hal⟩ : ∃ al, al = sm * 10 + dd := ⟨_, rfl⟩
          rw [hf2, ← hal, ← htn] at HA1
          rw [← htn] at HM1
          cases f2 with
          | false =>
            simp only [Bool.false_eq_true, if_false] at HA1
            have HA1 := fun W => Lib.hid (HA1 W)
            have hans := HL.out.2.2.2
            rw [HNX.out] at hf2
            rw [HB2.out hf2] at hans
            simp only [Bool.false_eq_true, if_false, Prod.mk.injEq] at hans
            obtain ⟨rfl, rfl, rfl⟩ := hans
            clear hf1 hf2 hal htn hsm hb hbd hbb hx hdd hdf hfit hj hTL hsz
            rcases hdm with ⟨rfl, rfl⟩ | ⟨rfl, rfl⟩
            all_goals
              go_wp2_with fail
              refine (HM1 _).out.mono ?_
              rintro e w8 ⟨rfl, rfl⟩
              go_wp2_with fail
              refine (HA1 _).out.mono ?_
              rintro e w8 ⟨rfl, rfl⟩
              go_wp2_with fail
              go_returns
              exact ⟨rfl, HT.out.2⟩
          | true =>
            simp only [if_true] at HA1
            have HA1 := fun W => Lib.hid (HA1 W)
            rw [HNX.out] at hf2
            have HQ := Lib.hid (show fits64 (sgnV m (valD (L.take (j + 1)))) = true ∧ al = sgnV m (valD (L.take (j + 1))) from ⟨hf2, by rw [hal]; exact HNX.out⟩)
            clear hf1 hf2 hal htn hsm hb hbd hbb hx hdd hdf hfit hTL hsz
            rcases hdm with ⟨rfl, rfl⟩ | ⟨rfl, rfl⟩
            all_goals
              go_wp2_with fail
              refine (HM1 _).out.mono ?_
              rintro e w8 ⟨rfl, rfl⟩
              go_wp2_with fail
              refine (HA1 _).out.mono ?_
              rintro e w8 ⟨rfl, rfl⟩
              go_wp2_with fail
              go_round
              case rel => exact ⟨j + 1, by omega, by go_num, HQ.out.1, by rw [HQ.out.2]⟩
              case measure => simp [intOf]; omega
      · have hjT : j = L.length := by omega
        have hlt2 : decide (j < T.size) = false := decide_eq_false hlt
        have hans := HL.out.2.2.2
        rw [hjT, List.take_length] at hsm
        rw [← hsm, hfit] at hans
        simp only [if_true, Prod.mk.injEq] at hans
        obtain ⟨rfl, rfl, rfl⟩ := hans
        clear hsm hfit hjT hsz hTL hlt
        go_wp2_with fail
        go_returns
        exact ⟨rfl, HT.out.2⟩
end Go.Proofs.YtkpndnjnckaanaaDoor
