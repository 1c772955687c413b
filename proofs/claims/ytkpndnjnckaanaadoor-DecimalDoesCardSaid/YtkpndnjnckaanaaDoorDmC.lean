/- Decimal, the document's side: digit, begins. Condition: a text of at most 2^30 bytes. -/
import Derived.Test.YtkpndnjnckaanaaDoorDmB
namespace Go.Proofs.YtkpndnjnckaanaaDoor
set_option linter.unusedVariables false
set_option linter.unusedSimpArgs false
open Go.RowKit Go.Shelf

def digAt (l : List UInt8) (i : Nat) : Bool := match l[i]? with | some b => isD b | none => false
theorem digAt_drop (l : List UInt8) (a j : Nat) : digAt l (a + j) = digAt (l.drop a) j := by unfold digAt; rw [List.getElem?_drop]
theorem digAt_dg : ∀ {l : List UInt8} {j : Nat}, j ≤ dg l → digAt l j = decide (j < dg l)
  | [], j, h => by
    have : dg [] = 0 := rfl
    obtain rfl : j = 0 := by omega
    rfl
  | b :: t, j, h => by
    by_cases hb : isD b = true
    · have hd : dg (b :: t) = dg t + 1 := by unfold dg; rw [List.takeWhile_cons_of_pos hb]; rfl
      cases j with
      | zero =>
        rw [hd, decide_eq_true (by omega)]
        exact hb
      | succ j =>
        have := digAt_dg (l := t) (j := j) (by omega)
        have e : digAt (b :: t) (j + 1) = digAt t j := by unfold digAt; rw [List.getElem?_cons_succ]
        rw [e, this, hd]
        exact decide_eq_decide.2 (by omega)
    · have hd : dg (b :: t) = 0 := by unfold dg; rw [List.takeWhile_cons_of_neg hb]; rfl
      obtain rfl : j = 0 := by omega
      rw [hd, decide_eq_false (by omega)]
      show isD b = false
      simpa using hb
theorem r_digit (s : ByteArray) (i : Nat) (hi : i ≤ 9223372036854775807) (w : World) : Calls Tryd.prog 37 #[.string s, .int .i64 (i : Int)] w fun e w' => e = .returned (.bool (digAt s.data.toList i)) ∧ w = w' := by
  have hsl := size_list s
  by_cases h : i < s.size
  · obtain ⟨b, hb⟩ : ∃ b, s.data.toList[i]? = some b := ⟨_, List.getElem?_eq_getElem (by omega)⟩
    have hix := fun W => idx_at (r := s) (i := i) (b := b) hb W
    have e : digAt s.data.toList i = (decide (48 ≤ b.toNat) && decide (b.toNat ≤ 57)) := by
      unfold digAt
      rw [hb]
      show isD b = _
      unfold isD
      rw [Bool.decide_and]
    rw [e]
    obtain ⟨x, hx⟩ : ∃ x : Int, x = ((b.toNat : Nat) : Int) := ⟨_, rfl⟩
    rw [← hx] at hix
    obtain ⟨f1, h1⟩ : ∃ f, decide (48 ≤ b.toNat) = f := ⟨_, rfl⟩
    obtain ⟨f2, h2⟩ : ∃ f, decide (b.toNat ≤ 57) = f := ⟨_, rfl⟩
    rw [h1, h2]
    have t1 : decide (48 ≤ x) = f1 := by rw [← h1, hx]; exact decide_eq_decide.2 (by omega)
    have t2 : decide (x ≤ 57) = f2 := by rw [← h2, hx]; exact decide_eq_decide.2 (by omega)
    have t3 : decide (i < s.size) = true := decide_eq_true h
    clear hx h1 h2 hsl hb e h
    cases f1 with
    | true =>
      go_enter Tryd.func37, Tryd.ntmps37
      go_wp2_with fail
      go_returns
      exact ⟨by simp, rfl⟩
    | false =>
      go_enter Tryd.func37, Tryd.ntmps37
      go_wp2_with fail
      go_returns
      exact ⟨by simp, rfl⟩
  · have e : digAt s.data.toList i = false := by
      unfold digAt
      rw [List.getElem?_eq_none (by omega)]
    rw [e]
    have t3 : decide (i < s.size) = false := decide_eq_false h
    clear hsl e h
    go_enter Tryd.func37, Tryd.ntmps37
    go_wp2_with fail
    go_returns
    exact ⟨rfl, rfl⟩
def begV (s : List UInt8) (p : Nat) : Value := match wrongC s p with
  | some a => .tuple #[.int .i64 (a : Int), .bool false]
  | none => .tuple #[.int .i64 (s.length : Int), .bool true]
theorem drop_ahd (s : List UInt8) : s.drop (ahd s) = restOf s := by
  unfold ahd restOf
  split
  · rw [List.drop_one]
  · rfl
set_option maxRecDepth 100000 in
set_option maxHeartbeats 4000000 in
theorem r_begins (s : ByteArray) (k : Nat) (hk : k ≤ 9) (hs : s.size ≤ 1073741825) (w : World) : Calls Tryd.prog 19 #[.string s, .int .i64 (k : Int)] w fun e w' => e = .returned (begV s.data.toList k) ∧ w = w' := by
  have hsl := size_list s
  have HDG := fun i (h : i ≤ 9223372036854775807) W => r_digit s i h W
  obtain ⟨S, hS⟩ : ∃ S, S = s.data.toList := ⟨_, rfl⟩
  have hidx := fun (i : Nat) (b : UInt8) (h : S[i]? = some b) W => idx_at (r := s) (i := i) (b := b) (by rw [← hS]; exact h) W
  rw [← hS] at hsl HDG ⊢
  obtain ⟨R, hR⟩ : ∃ R, R = restOf S := ⟨_, rfl⟩
  obtain ⟨a, ha⟩ : ∃ a, a = ahd S := ⟨_, rfl⟩
  have hda := drop_ahd S
  rw [← hR, ← ha] at hda
  have ha1 : a ≤ 1 := by rw [ha]; unfold ahd; split <;> omega
  have hlen : S.length = a + R.length := by
    have := ahd_len S
    rw [← hR, ← ha] at this
    omega
  obtain ⟨V, hV⟩ : ∃ V, V = begV S k := ⟨_, rfl⟩
  rw [← hV]
  have hv1 : ∀ x, wrongR R k = some x → V = .tuple #[.int .i64 ((a + x : Nat) : Int), .bool false] := fun x hx => by
    rw [hV]; unfold begV wrongC
    rw [← hR, hx, ← ha]; rfl
  have hv2 : wrongR R k = none → V = .tuple #[.int .i64 (S.length : Int), .bool true] := fun hx => by
    rw [hV]; unfold begV wrongC
    rw [← hR, hx]; rfl
  have hat : ∀ j, S[a + j]? = R[j]? := fun j => by rw [← hda, List.getElem?_drop]
  have hdj : ∀ j, digAt S (a + j) = digAt R j := fun j => by rw [digAt_drop, hda]
  -- the sign
  have h45 : (∃ f, f = minusOf S ∧ (S.length = 0 → f = false) ∧ ∀ b, S[0]? = some b → (((b.toNat : Nat) : Int) == 45) = f) := ⟨_, rfl, fun h => by
    cases S with
    | nil => rfl
    | cons b t => simp at h, fun b hb => by
    cases S with
    | nil => simp at hb
    | cons b' t =>
      obtain rfl : b' = b := by simpa using hb
      show _ = (b' == 45)
      by_cases h : b' = 45
      · subst h; rfl
      · have : b'.toNat ≠ 45 := fun h' => h (UInt8.toNat_inj.1 h')
        rw [beq_eq_false_iff_ne.2 h]
        exact beq_eq_false_iff_ne.2 (by omega)⟩
  obtain ⟨f, hf, hf0, hf1⟩ := h45
  have haf : a = if f then 1 else 0 := by rw [ha, hf]; rfl
  have HX := Lib.hid (⟨hsl, hlen, hv1, hv2, hat, hdj, hf0, hf1, haf⟩ : _ ∧ _ ∧ _ ∧ _ ∧ _ ∧ _ ∧ _ ∧ _ ∧ _)
  have HS := Lib.hid hS
  clear hsl hlen hv1 hv2 hat hdj hf0 hf1 haf hV hda ha hR hf hS
  have HDG := fun i (h : i ≤ 9223372036854775807) W => Lib.hid (HDG i h W)
  have HIX := Lib.hid hidx
  clear hidx
  go_enter Tryd.func19, Tryd.ntmps19
  go_upto_region 2 with fail
  go_cut [18] from 9 to 18 (fun s18 wx => s18 = .bool f ∧ wx = w)
  case first =>
    by_cases h0 : 0 < s.size
    · have t0 : decide (0 < s.size) = true := decide_eq_true h0
      have t0' : decide ((0 : Int) < (s.size : Int)) = true := decide_eq_true (by omega)
      obtain ⟨b, hb⟩ : ∃ b, S[0]? = some b := ⟨_, List.getElem?_eq_getElem (by rw [← HX.out.1]; exact h0)⟩
      have hix := HIX.out 0 b hb
      have e0 : ((0 : Nat) : Int) = 0 := rfl
      rw [e0] at hix
      have t4 := HX.out.2.2.2.2.2.2.2.1 b hb
      clear hb e0 h0
      go_wp2_with fail
      go_meet
      exact ⟨rfl, rfl⟩
    · have t0 : decide (0 < s.size) = false := decide_eq_false h0
      have t0' : decide ((0 : Int) < (s.size : Int)) = false := decide_eq_false (by omega)
      obtain rfl : f = false := HX.out.2.2.2.2.2.2.1 (by rw [← HX.out.1]; omega)
      clear h0
      go_wp2_with fail
      go_meet
      exact ⟨rfl, rfl⟩
  case rest =>
  obtain ⟨rfl, hwc⟩ := hcut
  obtain ⟨W1, hW1⟩ : ∃ W1, W1 = wc := ⟨_, rfl⟩
  rw [← hW1] at hwc ⊢
  clear hW1
  subst hwc
  go_upto_if 18 with fail
  go_cut [6] from 19 to 20 (fun s6 wx => s6 = .int .i64 (a : Int) ∧ wx = W1)
  case first =>
    cases f with
    | true =>
      go_wp2_with fail
      go_meet
      exact ⟨by rw [HX.out.2.2.2.2.2.2.2.2]; rfl, rfl⟩
    | false =>
      go_wp2_with fail
      go_meet
      exact ⟨by rw [HX.out.2.2.2.2.2.2.2.2]; rfl, rfl⟩
  case rest =>
  obtain ⟨rfl, hwc⟩ := hcut
  obtain ⟨W2, hW2⟩ : ∃ W1, W1 = wc := ⟨_, rfl⟩
  rw [← hW2] at hwc ⊢
  clear hW2
  subst hwc
  go_wp2_with fail
  refine (HDG a (by omega) _).out.mono ?_
  rintro e w1 ⟨rfl, rfl⟩
  obtain ⟨is, his⟩ : ∃ is, digAt S a = is := ⟨_, rfl⟩
  have his2 : is = decide (0 < dg R) := by
    rw [← his]
    have := HX.out.2.2.2.2.2.1 0
    rw [Nat.add_zero] at this
    rw [this, digAt_dg (Nat.zero_le _)]
  rw [his]
  have HIS := Lib.hid his2
  clear his his2
  cases is with
  | false =>
    have hd0 : dg R = 0 := by have := of_decide_eq_false HIS.out.symm; omega
    have hv := HX.out.2.2.1 0 (by unfold wrongR; rw [if_pos hd0])
    subst hv
    clear hd0
    go_wp2_with fail
    go_returns
    exact ⟨rfl, rfl⟩
  | true =>
    have hd0 : dg R ≠ 0 := by have := of_decide_eq_true HIS.out.symm; omega
    have w := whl_of hd0
    obtain ⟨b0, t', hRb⟩ : ∃ b t, R = b :: t := by
      cases R with
      | nil => exact absurd rfl hd0
      | cons b t => exact ⟨b, t, rfl⟩
    have hix := HIX.out a b0 (by have := HX.out.2.2.2.2.1 0; rw [Nat.add_zero] at this; rw [this, hRb]; rfl)
    obtain ⟨z, hz⟩ : ∃ z, (((b0.toNat : Nat) : Int) == 48) = z := ⟨_, rfl⟩
    have hzn : nOf R = if z then 1 else dg R := by
      unfold nOf
      rw [hRb]
      have : ((b0 :: t').head? = some 48) ↔ z = true := by
        rw [← hz]
        simp only [List.head?_cons, Option.some.injEq, beq_iff_eq]
        constructor
        · intro h; rw [h]; rfl
        · intro h; exact UInt8.toNat_inj.1 (by show b0.toNat = 48; omega)
      by_cases hzt : z = true
      · rw [if_pos (this.2 hzt), if_pos hzt]
      · rw [if_neg (fun h => hzt (this.1 h)), if_neg hzt]
    obtain ⟨c, hc⟩ : ∃ c, c = nOf R := ⟨_, rfl⟩
    rw [← hc] at w hzn
    have hdl := dg_le R
    have hcl : c ≤ R.length := by rw [hzn]; split <;> omega
    have HC := Lib.hid (⟨hc, w, hzn, hcl, hd0⟩ : _ ∧ _ ∧ _ ∧ _ ∧ _)
    have hal : a < s.size := by have := HX.out.1; have := HX.out.2.1; omega
    have hRl : R.length ≤ 1073741825 := by have := HX.out.1; have := HX.out.2.1; omega
    clear hc w hzn hcl hd0 hRb
    go_upto_if 30 with fail
    go_cut [6] from 31 to 37 (fun s6 wx => s6 = .int .i64 ((a + c : Nat) : Int) ∧ wx = W2)
    case first =>
      cases z with
      | true =>
        have ww1 : IntKind.i64.wrap ((a : Int) + 1) = (a : Int) + 1 := by rw [IntKind.wrap_i64]; omega
        go_wp2_with fail
        go_meet
        exact ⟨by rw [HC.out.2.2.1]; rfl, rfl⟩
      | false =>
        go_wp2_with fail
        clear hix hz
        go_loop [6] (fun v => ∃ m : Nat, a ≤ m ∧ m ≤ a + dg R ∧ v = .int .i64 (m : Int)) (fun v => 4000000000 - (intOf v).toNat)
        case atStart => exact ⟨a, Nat.le_refl _, Nat.le_add_right _ _, rfl⟩
        case round =>
          obtain ⟨m, hm1, hm2, rfl⟩ := hrel
          have hm3 : m ≤ 2000000000 := by omega
          have HD := fun W => HDG m (by omega) W
          have hdm : digAt S m = decide (m < a + dg R) := by
            obtain ⟨i, rfl⟩ : ∃ i, m = a + i := ⟨m - a, by omega⟩
            rw [HX.out.2.2.2.2.2.1 i, digAt_dg (by omega)]
            exact decide_eq_decide.2 (by omega)
          rw [hdm] at HD
          clear hdm
          by_cases hlt : m < a + dg R
          · rw [decide_eq_true hlt] at HD
            have ww1 : IntKind.i64.wrap ((m : Int) + 1) = (m : Int) + 1 := by rw [IntKind.wrap_i64]; omega
            go_wp2_with fail
            refine (HD _).out.mono ?_
            rintro e w3 ⟨rfl, rfl⟩
            go_wp2_with fail
            go_round
            case rel => exact ⟨m + 1, by omega, by omega, by go_num⟩
            case measure => simp [intOf]; omega
          · rw [decide_eq_false hlt] at HD
            have hme : m = a + c := by rw [HC.out.2.2.1]; show m = a + dg R; omega
            have HM := Lib.hid hme
            clear hme
            go_wp2_with fail
            refine (HD _).out.mono ?_
            rintro e w3 ⟨rfl, rfl⟩
            go_wp2_with fail
            go_meet
            exact ⟨by rw [← HM.out], rfl⟩
    case rest =>
    obtain ⟨rfl, hwc⟩ := hcut
    obtain ⟨W3, hW3⟩ : ∃ W1, W1 = wc := ⟨_, rfl⟩
    rw [← hW3] at hwc ⊢
    clear hW3 hix
    subst hwc
    obtain ⟨n, hn⟩ : ∃ n, n = a + c := ⟨_, rfl⟩
    rw [← hn]
    have hnl : n ≤ s.size := by have := HX.out.1; have := HX.out.2.1; have := HC.out.2.2.2.1; omega
    have hwr := HC.out.2.1.wrong k
    rw [List.take_append_drop] at hwr
    have hal2 : (R.take c).length = c := by rw [List.length_take]; have := HC.out.2.2.2.1; omega
    rw [hal2] at hwr
    have HN := Lib.hid (⟨hn, hwr⟩ : _ ∧ _)
    clear hn hwr hal2
    by_cases hend : n = s.size
    · have hB : R.drop c = [] := List.drop_eq_nil_of_le (by have := HX.out.1; have := HX.out.2.1; have := HN.out.1; omega)
      have hno : wrongR R k = none := by rw [HN.out.2, if_pos hB]
      have hv := HX.out.2.2.2.1 hno
      rw [← HX.out.1, ← hend] at hv
      subst hv
      have t6 : ((n : Int) == (s.size : Int)) = true := by simp; omega
      clear hB hno hend
      go_wp2_with fail
      go_returns
      exact ⟨rfl, rfl⟩
    · have t6 : ((n : Int) == (s.size : Int)) = false := by simp; omega
      obtain ⟨bb, u, hBu⟩ : ∃ bb u, R.drop c = bb :: u := by
        cases hq : R.drop c with
        | nil =>
          have h1 := congrArg List.length hq
          rw [List.length_drop, List.length_nil] at h1
          have := HX.out.1; have := HX.out.2.1; have := HN.out.1
          omega
        | cons b t => exact ⟨b, t, rfl⟩
      have hix := HIX.out n bb (by
        have e : (R.drop c)[0]? = R[c]? := by rw [List.getElem?_drop, Nat.add_zero]
        rw [HN.out.1, HX.out.2.2.2.2.1, ← e, hBu]
        rfl)
      have hwr := HN.out.2
      rw [hBu] at hwr
      have hul : u.length + 1 = R.length - c := by rw [← List.length_drop, hBu, List.length_cons]
      by_cases h46 : bb ≠ 46
      · have hv := HX.out.2.2.1 c (by rw [hwr, if_neg (by simp), if_pos (.inr (by simpa using h46))])
        rw [← HN.out.1] at hv
        subst hv
        have t2 : (((bb.toNat : Nat) : Int) != 46) = true := by
          have h2 : bb.toNat ≠ 46 := fun h => h46 (UInt8.toNat_inj.1 h)
          simp; omega
        clear h46 hwr hBu hend
        go_wp2_with fail
        go_returns
        exact ⟨rfl, rfl⟩
      obtain rfl : bb = 46 := Classical.byContradiction fun h => h46 h
      have e46 : (((46 : UInt8).toNat : Nat) : Int) = 46 := rfl
      rw [e46] at hix
      clear e46 h46
      by_cases hk0 : k = 0
      · have hv := HX.out.2.2.1 c (by rw [hwr, if_neg (by simp), if_pos (.inl hk0)])
        rw [← HN.out.1] at hv
        subst hv
        have t2 : ((k : Int) == 0) = true := by simp; omega
        clear hk0 hwr hBu hend
        go_wp2_with fail
        go_returns
        exact ⟨rfl, rfl⟩
      have t2 : ((k : Int) == 0) = false := by simp; omega
      rw [if_neg (by simp), if_neg (by simpa using hk0), List.tail_cons, List.length_cons] at hwr
      obtain ⟨kk, hkk⟩ : ∃ kk, kk = min (dg u) k := ⟨_, rfl⟩
      simp only [← hkk] at hwr
      have hdu := dg_le u
      have hdm : ∀ i, i ≤ dg u → digAt S (n + 1 + i) = decide (i < dg u) := fun i hi => by
        rw [show n + 1 + i = a + (c + 1 + i) by have := HN.out.1; omega, HX.out.2.2.2.2.2.1, show c + 1 + i = c + (1 + i) by omega, digAt_drop, hBu, digAt_drop]
        exact digAt_dg hi
      obtain ⟨f0, hf0⟩ : ∃ f0, f0 = n + 1 := ⟨_, rfl⟩
      have hsf : f0 + u.length = s.size := by have := HX.out.1; have := HX.out.2.1; have := HN.out.1; have := HC.out.2.2.2.1; omega
      rw [← hf0] at hdm
      have ww3 : IntKind.i64.wrap ((n : Int) + 1) = (f0 : Int) := by rw [IntKind.wrap_i64]; omega
      have HU := Lib.hid (⟨hwr, hkk, hdm, hf0, hsf⟩ : _ ∧ _ ∧ _ ∧ _ ∧ _)
      have hfb : f0 ≤ 1073741830 := by omega
      have hub : dg u ≤ 1073741830 := by omega
      clear hwr hkk hdm hf0 hsf hBu hend hk0 hul hdu
      go_wp2_with fail
      clear hix
      go_loop [6] (fun v => ∃ m : Nat, f0 ≤ m ∧ m ≤ f0 + kk ∧ v = .int .i64 (m : Int)) (fun v => 4000000000 - (intOf v).toNat)
      case atStart => exact ⟨f0, Nat.le_refl _, Nat.le_add_right _ _, rfl⟩
      case round =>
        obtain ⟨m, hm1, hm2, rfl⟩ := hrel
        obtain ⟨i, hi⟩ : ∃ i, i = m - f0 := ⟨_, rfl⟩
        have hkm := HU.out.2.1
        have hmb : m ≤ 2000000000 := by omega
        have ww4 : IntKind.i64.wrap ((m : Int) - (f0 : Int)) = (i : Int) := by rw [IntKind.wrap_i64]; omega
        have HD := fun W => HDG m (by omega) W
        have hd : digAt S m = decide (i < dg u) := by rw [show m = f0 + i by omega]; exact HU.out.2.2.1 i (by omega)
        rw [hd] at HD
        clear hd
        by_cases hlt : i < kk
        · have t3 : decide ((i : Int) < (k : Int)) = true := decide_eq_true (by omega)
          have t3' : decide (i < k) = true := decide_eq_true (by omega)
          rw [decide_eq_true (by omega)] at HD
          have ww1 : IntKind.i64.wrap ((m : Int) + 1) = (m : Int) + 1 := by rw [IntKind.wrap_i64]; omega
          have HI := Lib.hid hi
          clear hi hkm
          go_wp2_with fail
          refine (HD _).out.mono ?_
          rintro e w3 ⟨rfl, rfl⟩
          go_wp2_with fail
          go_round
          case rel => exact ⟨m + 1, by omega, by have := HI.out; omega, by go_num⟩
          case measure => simp [intOf]; omega
        · have hik : i = kk := by omega
          -- what is answered
          have hfin : V = .tuple #[.int .i64 (m : Int), .bool (decide (m = s.size ∧ f0 < m))] := by
            have hwr := HU.out.1
            have hsf := HU.out.2.2.2.2
            by_cases hbad : kk = 0 ∨ kk + 1 < u.length + 1
            · rw [if_pos hbad] at hwr
              have hv := HX.out.2.2.1 _ hwr
              rw [hv, decide_eq_false (by omega), show a + (c + 1 + kk) = m by have := HU.out.2.2.2.1; have := HN.out.1; omega]
            · rw [if_neg hbad] at hwr
              have hv := HX.out.2.2.2.1 hwr
              have hdu := dg_le u
              rw [hv, ← HX.out.1, decide_eq_true (by omega), show s.size = m by omega]
          by_cases ha : m = s.size
          · have t7 : ((m : Int) == (s.size : Int)) = true := by simp; omega
            obtain ⟨g, hg⟩ : ∃ g, decide (f0 < m) = g := ⟨_, rfl⟩
            have hfin2 : V = .tuple #[.int .i64 (m : Int), .bool g] := by
              have hx : decide (m = s.size ∧ f0 < m) = decide (f0 < m) := decide_eq_decide.2 ⟨fun h => h.2, fun h => ⟨ha, h⟩⟩
              rw [hfin, hx, hg]
            have hg2 : decide ((f0 : Int) < (m : Int)) = g := by rw [← hg]; exact decide_eq_decide.2 (by omega)
            subst hfin2
            clear hfin
            by_cases h3 : i < k
            · have t3 : decide ((i : Int) < (k : Int)) = true := decide_eq_true (by omega)
              have t3' : decide (i < k) = true := decide_eq_true h3
              rw [decide_eq_false (by omega)] at HD
              clear hi hik hkm ha
              go_wp2_with fail
              refine (HD _).out.mono ?_
              rintro e w3 ⟨rfl, rfl⟩
              go_wp2_with fail
              go_returns
              exact ⟨rfl, rfl⟩
            · have t3 : decide ((i : Int) < (k : Int)) = false := decide_eq_false (by omega)
              have t3' : decide (i < k) = false := decide_eq_false h3
              clear hi hik hkm ha
              go_wp2_with fail
              go_returns
              exact ⟨rfl, rfl⟩
          · have t7 : ((m : Int) == (s.size : Int)) = false := by simp; omega
            have hfin2 : V = .tuple #[.int .i64 (m : Int), .bool false] := by
              have hx : decide (m = s.size ∧ f0 < m) = false := decide_eq_false (fun h => ha h.1)
              rw [hfin, hx]
            subst hfin2
            clear hfin
            by_cases h3 : i < k
            · have t3 : decide ((i : Int) < (k : Int)) = true := decide_eq_true (by omega)
              have t3' : decide (i < k) = true := decide_eq_true h3
              rw [decide_eq_false (by omega)] at HD
              clear hi hik hkm ha
              go_wp2_with fail
              refine (HD _).out.mono ?_
              rintro e w3 ⟨rfl, rfl⟩
              go_wp2_with fail
              go_returns
              exact ⟨rfl, rfl⟩
            · have t3 : decide ((i : Int) < (k : Int)) = false := decide_eq_false (by omega)
              have t3' : decide (i < k) = false := decide_eq_false h3
              clear hi hik hkm ha
              go_wp2_with fail
              go_returns
              exact ⟨rfl, rfl⟩
end Go.Proofs.YtkpndnjnckaanaaDoor
