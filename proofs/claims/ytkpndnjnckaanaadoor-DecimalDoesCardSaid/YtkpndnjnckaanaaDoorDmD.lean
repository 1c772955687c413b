/- Decimal, the document's side: Parse. Condition: a text of at most 2^30 bytes. -/
import Derived.Test.YtkpndnjnckaanaaDoorDmC
namespace Go.Proofs.YtkpndnjnckaanaaDoor
set_option linter.unusedVariables false
set_option linter.unusedSimpArgs false
open Go.RowKit Go.Shelf

def digF (l : List UInt8) : List UInt8 := l.filter isD
def leftF (p : Nat) (l : List UInt8) : Int := l.foldl (fun a b => if b = 46 then (p : Int) else if isD b then a - 1 else a) (-1)
theorem digF_snoc (l : List UInt8) (b : UInt8) : digF (l ++ [b]) = digF l ++ if isD b then [b] else [] := by
  unfold digF
  rw [List.filter_append]
  cases h : isD b <;> simp [h]
theorem leftF_snoc (p : Nat) (l : List UInt8) (b : UInt8) : leftF p (l ++ [b]) = if b = 46 then (p : Int) else if isD b then leftF p l - 1 else leftF p l := by
  unfold leftF
  rw [List.foldl_append]
  rfl
theorem digF_all {l : List UInt8} (h : ∀ b ∈ l, isD b = true) : digF l = l := List.filter_eq_self.2 h
theorem digF_app (l m : List UInt8) : digF (l ++ m) = digF l ++ digF m := List.filter_append ..
theorem leftF_all (p : Nat) : ∀ (l : List UInt8) (a : Int), (∀ b ∈ l, isD b = true) → l.foldl (fun a b => if b = 46 then (p : Int) else if isD b then a - 1 else a) a = a - l.length
  | [], a, _ => by simp
  | b :: t, a, h => by
    have hb := h b (by simp)
    have h46 : b ≠ 46 := fun hh => by rw [hh] at hb; exact absurd hb (by decide)
    rw [List.foldl_cons, if_neg h46, if_pos hb, leftF_all p t _ fun x hx => h x (by simp [hx]), List.length_cons]
    omega
theorem digF_digits (l : List UInt8) : ∀ b ∈ digF l, isD b = true := fun b hb => (List.mem_filter.1 hb).2
/-- What a right text gives. -/
theorem right_text {s : List UInt8} {p : Nat} (h : wrongC s p = none) : ∃ g : Nat, g ≤ p ∧ digR (restOf s) p = digF s ++ List.replicate g 48 ∧ (g : Int) = (if leftF p s < 0 then (p : Int) else leftF p s) ∧ s ≠ [] := by
  have hr : wrongR (restOf s) p = none := by
    unfold wrongC at h
    exact Option.map_eq_none_iff.1 h
  have hdg : dg (restOf s) ≠ 0 := fun h0 => by unfold wrongR at hr; rw [if_pos h0] at hr; cases hr
  obtain ⟨A, B, he, w⟩ : ∃ A B, restOf s = A ++ B ∧ Whl A B := ⟨_, _, (List.take_append_drop _ _).symm, whl_of hdg⟩
  have hsne : s ≠ [] := fun h0 => by
    have h1 : restOf s = [] := by rw [h0]; rfl
    rw [he] at h1
    exact w.ne (List.append_eq_nil_iff.1 h1).1
  rw [he] at hr ⊢
  rw [w.wrong] at hr
  rw [w.digs]
  have hB : B = [] ∨ (∃ u, B = 46 :: u ∧ u.length ≤ p ∧ ∀ b ∈ u, isD b = true) := by
    by_cases h0 : B = []
    · exact .inl h0
    · rw [if_neg h0] at hr
      by_cases h1 : p = 0 ∨ B.head? ≠ some 46
      · rw [if_pos h1] at hr; cases hr
      · rw [if_neg h1] at hr
        by_cases h2 : min (dg B.tail) p = 0 ∨ min (dg B.tail) p + 1 < B.length
        · rw [if_pos h2] at hr; cases hr
        · cases B with
          | nil => exact absurd rfl h0
          | cons b u =>
            have hb : b = 46 := Classical.byContradiction fun hh => h1 (.inr (by simpa using hh))
            subst hb
            simp only [List.tail_cons, List.length_cons] at h2
            have hle := dg_le u
            have hdu : dg u = u.length := by omega
            refine .inr ⟨u, rfl, by omega, ?_⟩
            have := dg_digits u
            rwa [hdu, List.take_length] at this
  have hsg : ∃ sg : List UInt8, s = sg ++ (A ++ B) ∧ (sg = [] ∨ sg = [45]) := by
    rcases wrongC_cases s with ⟨h1, t, rfl, h2, h3⟩ | ⟨h1, h2, h3⟩
    · exact ⟨[45], by rw [← he, h2]; rfl, .inr rfl⟩
    · exact ⟨[], by rw [← he, h2]; rfl, .inl rfl⟩
  obtain ⟨sg, hs, hsg⟩ := hsg
  have hA : 0 < A.length := List.length_pos_iff.2 w.ne
  have hl0 : ∀ t, leftF p (sg ++ t) = leftF p t := fun t => by
    rcases hsg with rfl | rfl
    · rfl
    · unfold leftF
      rw [List.foldl_append]
      rfl
  have hf0 : digF sg = [] := by
    rcases hsg with rfl | rfl
    · rfl
    · rfl
  have hlA : ∀ t, leftF p (A ++ t) = t.foldl (fun a b => if b = 46 then (p : Int) else if isD b then a - 1 else a) (-1 - A.length) := fun t => by
    unfold leftF
    rw [List.foldl_append, leftF_all p A _ w.dig]
  rcases hB with rfl | ⟨u, rfl, hu, hud⟩
  · refine ⟨p, Nat.le_refl _, ?_, ?_, hsne⟩
    · rw [hs, digF_app, hf0, List.append_nil, digF_all w.dig]
      simp
    · rw [hs, hl0, hlA, if_pos (by simp; omega)]
  · refine ⟨p - u.length, Nat.sub_le _ _, ?_, ?_, hsne⟩
    · rw [hs, digF_app, hf0, digF_app, digF_all w.dig]
      have : digF (46 :: u) = u := by
        show List.filter isD (46 :: u) = u
        rw [List.filter_cons_of_neg (by decide)]
        exact digF_all hud
      rw [this]
      simp
    · have e : leftF p s = (p : Int) - u.length := by
        rw [hs, hl0, hlA, List.foldl_cons, if_pos rfl, leftF_all p u _ hud]
      rw [e, if_neg (by omega)]
      omega
theorem sgnT (v : Nat) : sgnV true v = -(v : Int) := rfl
/-- Too much below nought is too much either way. -/
theorem none_fits {v v' : Nat} (h : v ≤ v') (hf : fits64 (-(v : Int)) = false) (m : Bool) : fits64 (sgnV m v') = false := by
  have h1 : ¬ (-9223372036854775808 ≤ -(v : Int) ∧ -(v : Int) ≤ 9223372036854775807) := of_decide_eq_false hf
  refine decide_eq_false ?_
  unfold sgnV
  split <;> omega
theorem valD_app_le : ∀ (l : List UInt8) (g : Nat), valD l ≤ valD (l ++ List.replicate g 48) := fun l g => by
  rw [valD_zeros]
  exact Nat.le_mul_of_pos_right _ (Nat.pow_pos (by decide))
theorem digF_take_le (l : List UInt8) (i : Nat) : valD (digF (l.take i)) ≤ valD (digF l) := by
  have e : digF l = digF (l.take i) ++ digF (l.drop i) := by rw [← digF_app, List.take_append_drop]
  have h := valD_take_le (digF l) (digF (l.take i)).length (digF_digits l)
  rw [e, List.take_left] at h
  rw [e]
  exact h
/-- What is gathered, as a number below nought; what is left; the world. -/
structure PdP (S : List UInt8) (k i : Nat) (w : World) (v10 v11 v12 : Value) (wr : World) : Prop where
  hi : i ≤ S.length
  e10 : v10 = .int .i64 (-((valD (digF (S.take i)) : Nat) : Int))
  ft : fits64 (-((valD (digF (S.take i)) : Nat) : Int)) = true
  e11 : v11 = .int .i64 (leftF k (S.take i))
  lo : -1 - (i : Int) ≤ leftF k (S.take i) ∧ leftF k (S.take i) ≤ (k : Int)
  e12 : v12 = .int .i64 (i : Int)
  o : Gw w wr
structure PeP (V0 : Nat) (i : Nat) (w : World) (v10 v17 : Value) (wr : World) : Prop where
  e10 : v10 = .int .i64 (-((V0 * 10 ^ i : Nat) : Int))
  ft : fits64 (-((V0 * 10 ^ i : Nat) : Int)) = true
  e17 : v17 = .int .i64 (i : Int)
  o : Gw w wr
theorem PdP.next {S : List UInt8} {k i : Nat} {b : UInt8} (h : S[i]? = some b) (hk : k ≤ 9) (hlo : -1 - (i : Int) ≤ leftF k (S.take i) ∧ leftF k (S.take i) ≤ (k : Int)) :
    S.take (i + 1) = S.take i ++ [b] ∧ i + 1 ≤ S.length ∧ -1 - ((i + 1 : Nat) : Int) ≤ leftF k (S.take (i + 1)) ∧ leftF k (S.take (i + 1)) ≤ (k : Int) := by
  obtain ⟨hi, hb⟩ := List.getElem?_eq_some_iff.1 h
  have e : S.take (i + 1) = S.take i ++ [b] := by rw [List.take_succ_eq_append_getElem hi, hb]
  refine ⟨e, hi, ?_⟩
  rw [e, leftF_snoc]
  split
  · omega
  · split <;> omega
set_option maxRecDepth 100000 in
set_option maxHeartbeats 8000000 in
theorem r_parse (s : ByteArray) (p : Int) (hs : s.size ≤ 1073741825) (w : World) : Calls Tryd.prog 9 #[.string s, .int .i64 p] w fun e w' => e = .returned (.tuple #[.int .i64 (parseI s.data.toList p).1, .int .i64 (parseI s.data.toList p).2.1, .int .i64 (parseI s.data.toList p).2.2]) ∧ Gw w w' := by
  by_cases hp : 0 ≤ p ∧ p ≤ 9
  case neg =>
    have e : parseI s.data.toList p = (0, 1, 0) := if_neg hp
    rw [e]
    simp only
    have ho : (∃ c, decide (p < 0) = c ∧ (c = false → decide (9 < p) = true)) := ⟨_, rfl, fun h => decide_eq_true (by have := of_decide_eq_false h; omega)⟩
    obtain ⟨c, hc, hc2⟩ := ho
    clear hp e hs
    cases c with
    | true =>
      clear hc2
      go_enter Tryd.func9, Tryd.ntmps9
      go_wp2_with fail
      go_returns
      exact ⟨rfl, Gw.refl _⟩
    | false =>
      have t3 := hc2 rfl
      clear hc2
      go_enter Tryd.func9, Tryd.ntmps9
      go_wp2_with fail
      go_returns
      exact ⟨rfl, Gw.refl _⟩
  case pos =>
  obtain ⟨k, rfl⟩ : ∃ k : Nat, p = k := ⟨p.toNat, by omega⟩
  have hk9 : k ≤ 9 := by omega
  have t2 : decide ((k : Int) < 0) = false := decide_eq_false (by omega)
  have t3 : decide (9 < (k : Int)) = false := decide_eq_false (by omega)
  rw [parseI_nat _ _ hk9]
  have HBG := fun W => r_begins s k hk9 hs W
  have hsl := size_list s
  obtain ⟨S, hS⟩ : ∃ S, S = s.data.toList := ⟨_, rfl⟩
  have hidx := fun (i : Nat) (b : UInt8) (h : S[i]? = some b) W => idx_at (r := s) (i := i) (b := b) (by rw [← hS]; exact h) W
  rw [← hS] at HBG hsl ⊢
  obtain ⟨ans, hans⟩ : ∃ ans, ans = parseC S k := ⟨_, rfl⟩
  rw [← hans]
  cases hw : wrongC S k with
  | some a =>
    have e : ans = (0, 20, (a : Int)) := by rw [hans]; unfold parseC; rw [hw]
    have e2 : begV S k = .tuple #[.int .i64 (a : Int), .bool false] := by unfold begV; rw [hw]
    rw [e2] at HBG
    rw [e]
    simp only
    have HBG := fun W => Lib.hid (HBG W)
    clear hp e e2 hw hans hS hsl hidx
    go_enter Tryd.func9, Tryd.ntmps9
    go_wp2_with fail
    refine (HBG _).out.mono ?_
    rintro e w1 ⟨rfl, rfl⟩
    go_wp2_with fail
    go_returns
    exact ⟨rfl, Gw.refl _⟩
  | none =>
    have e2 : begV S k = .tuple #[.int .i64 (S.length : Int), .bool true] := by unfold begV; rw [hw]
    rw [e2] at HBG
    have HBG := fun W => Lib.hid (HBG W)
    obtain ⟨g, hg, hdig, hleft, hne⟩ := right_text hw
    obtain ⟨m, hm⟩ : ∃ m, m = minusOf S := ⟨_, rfl⟩
    obtain ⟨v, hv⟩ : ∃ v, v = valD (digR (restOf S) k) := ⟨_, rfl⟩
    have ea : ans = if fits64 (sgnV m v) then (sgnV m v, 0, 0) else (0, 21, 0) := by rw [hans]; unfold parseC; rw [hw, ← hm, ← hv]
    have hv2 : v = valD (digF S) * 10 ^ g := by rw [hv, hdig, valD_zeros]
    have hbad : ∀ x, x ≤ v → fits64 (-(x : Int)) = false → ans = (0, 21, 0) := fun x hx hf => by rw [ea, none_fits hx hf m, if_neg (by decide)]
    obtain ⟨b0, t', hb0⟩ : ∃ b t, S = b :: t := by
      cases S with
      | nil => exact absurd rfl hne
      | cons b t => exact ⟨b, t, rfl⟩
    have hix0 := hidx 0 b0 (by rw [hb0]; rfl)
    have e0 : ((0 : Nat) : Int) = 0 := rfl
    rw [e0] at hix0
    have h45 : (((b0.toNat : Nat) : Int) == 45) = m := by
      rw [hm, hb0]
      show _ = (b0 == 45)
      by_cases h : b0 = 45
      · subst h; rfl
      · have : b0.toNat ≠ 45 := fun h' => h (UInt8.toNat_inj.1 h')
        rw [beq_eq_false_iff_ne.2 h]
        exact beq_eq_false_iff_ne.2 (by omega)
    have HX := Lib.hid (⟨hsl, ea, hv2, hbad, hleft, hg⟩ : _ ∧ _ ∧ _ ∧ _ ∧ _ ∧ _)
    have HIX := Lib.hid hidx
    have hs1 : 0 < s.size := by rw [hsl, hb0]; simp
    clear hp e2 hw hans hS hsl hidx e0 hm hv ea hv2 hbad hleft hg hdig hne hb0
    obtain ⟨x0, x1, x2⟩ := ans
    simp only
    go_enter Tryd.func9, Tryd.ntmps9
    go_wp2_with fail
    refine (HBG _).out.mono ?_
    rintro e w1 ⟨rfl, rfl⟩
    go_wp2_with fail
    clear hix0 h45
    go_loopw [10, 11, 12, 13, 14, 15, 16] (fun v10 v11 v12 _ _ _ _ wr => ∃ i : Nat, PdP S k i w v10 v11 v12 wr) (fun _ _ v12 _ _ _ _ _ => s.size - (intOf v12).toNat)
    case atStart => exact ⟨0, ⟨Nat.zero_le _, rfl, rfl, rfl, ⟨by show (-1 - ((0 : Nat) : Int)) ≤ -1; omega, by show (-1 : Int) ≤ _; omega⟩, rfl, Gw.refl _⟩⟩
    case round =>
      obtain ⟨i, ⟨hi, rfl, hft, rfl, hlo, rfl, ho⟩⟩ := hrel
      have hsl := HX.out.1
      obtain ⟨nv, hnv⟩ : ∃ nv : Int, nv = -((valD (digF (S.take i)) : Nat) : Int) := ⟨_, rfl⟩
      obtain ⟨lf, hlf⟩ : ∃ lf : Int, lf = leftF k (S.take i) := ⟨_, rfl⟩
      rw [← hnv] at hft ⊢
      rw [← hlf] at hlo ⊢
      have HO := Lib.hid ho
      clear ho
      by_cases hlt : i < s.size
      · have t4 : decide (i < s.size) = true := decide_eq_true hlt
        obtain ⟨b, hb⟩ : ∃ b, S[i]? = some b := ⟨_, List.getElem?_eq_getElem (by omega)⟩
        have hix := HIX.out i b hb
        have w11 : IntKind.i64.wrap ((i : Int) + 1) = (i : Int) + 1 := by rw [IntKind.wrap_i64]; omega
        obtain ⟨n1, n2, n3⟩ := PdP.next (k := k) hb hk9 (by rw [← hlf]; exact hlo)
        have hd2 := digF_snoc (S.take i) b
        have hl2 := leftF_snoc k (S.take i) b
        rw [← n1] at hd2 hl2
        rw [← hlf] at hl2
        obtain ⟨x, hx⟩ : ∃ x : Int, x = ((b.toNat : Nat) : Int) := ⟨_, rfl⟩
        rw [← hx] at hix
        have HN := Lib.hid (⟨n2, n3, hd2, hl2, hnv, hft⟩ : _ ∧ _ ∧ _ ∧ _ ∧ _ ∧ _)
        by_cases h46 : b = 46
        · subst h46
          have t5 : (x == 46) = true := by rw [hx]; rfl
          have t6 : decide (x < 48) = true := by rw [hx]; rfl
          clear hx hb n1 n2 n3 hd2 hl2 hnv hlf hft hlo hi hsl
          go_wp2_with fail
          go_roundw
          case rel => exact ⟨i + 1, ⟨HN.out.1, by rw [HN.out.2.2.1, if_neg (by decide), List.append_nil, ← HN.out.2.2.2.2.1], by rw [HN.out.2.2.1, if_neg (by decide), List.append_nil, ← HN.out.2.2.2.2.1]; exact HN.out.2.2.2.2.2, by rw [HN.out.2.2.2.1, if_pos rfl], HN.out.2.1, by go_num, HO.out⟩⟩
          case measure => simp [intOf]; omega
        · have t5 : (x == 46) = false := by
            rw [hx]
            have : b.toNat ≠ 46 := fun h' => h46 (UInt8.toNat_inj.1 h')
            exact beq_eq_false_iff_ne.2 (by omega)
          by_cases hdb : isD b = true
          · have hbb : 48 ≤ b.toNat ∧ b.toNat ≤ 57 := of_decide_eq_true hdb
            have t6 : decide (x < 48) = false := decide_eq_false (by omega)
            have t7 : decide (57 < x) = false := decide_eq_false (by omega)
            rw [if_pos hdb] at hd2
            rw [if_neg h46, if_pos hdb] at hl2
            obtain ⟨d, hd⟩ : ∃ d : Nat, d = b.toNat - 48 := ⟨_, rfl⟩
            have hd9 : d ≤ 9 := by omega
            have w8 : IntKind.u8.wrap (x - 48) = (d : Int) := by rw [IntKind.wrap_u8]; omega
            have w9 : IntKind.i64.wrap (d : Int) = (d : Int) := by rw [IntKind.wrap_i64]; omega
            have w10 : IntKind.i64.wrap (lf - 1) = lf - 1 := by rw [IntKind.wrap_i64]; omega
            have hval : (-((valD (digF (S.take (i + 1))) : Nat) : Int)) = nv * 10 - d := by rw [hd2, valD_snoc, hnv, hd]; omega
            have hle : valD (digF (S.take (i + 1))) ≤ v := by
              refine Nat.le_trans (digF_take_le S (i + 1)) ?_
              rw [HX.out.2.2.1]
              exact Nat.le_mul_of_pos_right _ (Nat.pow_pos (by decide))
            obtain ⟨f1, hf1⟩ : ∃ f, fits64 (nv * 10) = f := ⟨_, rfl⟩
            have HM1 := fun W => r1_mul10 nv hft W
            cases f1 with
            | false =>
              have hb2 := HX.out.2.2.2.1 _ hle (by
                rw [hval]
                have h1 : ¬ (-9223372036854775808 ≤ nv * 10 ∧ nv * 10 ≤ 9223372036854775807) := of_decide_eq_false hf1
                exact decide_eq_false (by omega))
              have HA1 := fun W => Lib.hid (r1_sub 0 (by decide) d hd9 W)
              have e3 : tellV (0 - (d : Int)) = .tuple #[.int .i64 (-(d : Int)), .bool true] := by
                unfold tellV
                rw [Int.zero_sub, show fits64 (-(d : Int)) = true from decide_eq_true (by omega), if_pos rfl]
              rw [e3] at HA1
              unfold tellV at HM1
              rw [hf1] at HM1
              simp only [Bool.false_eq_true, if_false] at HM1
              have HM1 := fun W => Lib.hid (HM1 W)
              simp only [Prod.mk.injEq] at hb2
              obtain ⟨rfl, rfl, rfl⟩ := hb2
              clear hx hb n1 n2 n3 hd2 hl2 hnv hlf hft hlo hi hsl hval hle hf1 hdb hbb hd e3 h46
              go_wp2_with fail
              refine (HM1 _).out.mono ?_
              rintro e w3 ⟨rfl, o3⟩
              have O3 := Lib.hid o3
              clear o3
              go_wp2_with fail
              refine (HA1 _).out.mono ?_
              rintro e w4 ⟨rfl, rfl⟩
              go_wp2_with fail
              go_returns
              exact ⟨rfl, HO.out.trans O3.out⟩
            | true =>
              have HA1 := fun W => r1_sub (nv * 10) hf1 d hd9 W
              obtain ⟨f2, hf2⟩ : ∃ f, fits64 (nv * 10 - d) = f := ⟨_, rfl⟩
              unfold tellV at HM1 HA1
              rw [hf1] at HM1
              simp only [if_true] at HM1
              obtain ⟨tn, htn⟩ : ∃ tn, tn = nv * 10 := ⟨_, rfl⟩
              obtain ⟨al, hal⟩ : ∃ al, al = nv * 10 - (d : Int) := ⟨_, rfl⟩
              rw [hf2, ← hal, ← htn] at HA1
              rw [← htn] at HM1
              have HM1 := fun W => Lib.hid (HM1 W)
              cases f2 with
              | false =>
                have hb2 := HX.out.2.2.2.1 _ hle (by rw [hval]; exact hf2)
                simp only [Bool.false_eq_true, if_false] at HA1
                have HA1 := fun W => Lib.hid (HA1 W)
                simp only [Prod.mk.injEq] at hb2
                obtain ⟨rfl, rfl, rfl⟩ := hb2
                clear hx hb n1 n2 n3 hd2 hl2 hnv hlf hft hlo hi hsl hval hle hf1 hf2 hdb hbb hd htn hal h46
                go_wp2_with fail
                refine (HM1 _).out.mono ?_
                rintro e w3 ⟨rfl, o3⟩
                have O3 := Lib.hid o3
                clear o3
                go_wp2_with fail
                refine (HA1 _).out.mono ?_
                rintro e w4 ⟨rfl, rfl⟩
                go_wp2_with fail
                go_returns
                exact ⟨rfl, HO.out.trans O3.out⟩
              | true =>
                simp only [if_true] at HA1
                have HA1 := fun W => Lib.hid (HA1 W)
                have HV := Lib.hid (⟨by rw [hval, hal], by rw [hval]; exact hf2, hl2⟩ : (-((valD (digF (S.take (i + 1))) : Nat) : Int)) = al ∧ fits64 (-((valD (digF (S.take (i + 1))) : Nat) : Int)) = true ∧ _)
                clear hx hb n1 n2 n3 hd2 hl2 hnv hlf hft hlo hi hsl hval hle hf1 hf2 hdb hbb hd htn hal h46
                go_wp2_with fail
                refine (HM1 _).out.mono ?_
                rintro e w3 ⟨rfl, o3⟩
                have O3 := Lib.hid (HO.out.trans o3)
                clear o3
                go_wp2_with fail
                refine (HA1 _).out.mono ?_
                rintro e w4 ⟨rfl, rfl⟩
                go_wp2_with fail
                go_roundw
                case rel => exact ⟨i + 1, ⟨HN.out.1, by rw [HV.out.1], HV.out.2.1, by rw [HV.out.2.2], HN.out.2.1, by go_num, O3.out⟩⟩
                case measure => simp [intOf]; omega
          · obtain ⟨z, hz⟩ : ∃ z, decide (x < 48) = z := ⟨_, rfl⟩
            have t7 : z = false → decide (57 < x) = true := fun hh => by
              rw [hh] at hz
              have h1 := of_decide_eq_false hz
              have h2 : ¬ (48 ≤ b.toNat ∧ b.toNat ≤ 57) := fun h => hdb (decide_eq_true h)
              exact decide_eq_true (by omega)
            rw [if_neg hdb, List.append_nil] at hd2
            rw [if_neg h46, if_neg hdb] at hl2
            have HV := Lib.hid (⟨hd2, hl2⟩ : _ ∧ _)
            clear hx hb n1 n2 n3 hd2 hl2 hnv hlf hft hlo hi hsl hdb h46
            cases z with
            | true =>
              clear t7
              go_wp2_with fail
              go_roundw
              case rel => exact ⟨i + 1, ⟨HN.out.1, by rw [HV.out.1, ← HN.out.2.2.2.2.1], by rw [HV.out.1, ← HN.out.2.2.2.2.1]; exact HN.out.2.2.2.2.2, by rw [HV.out.2], HN.out.2.1, by go_num, HO.out⟩⟩
              case measure => simp [intOf]; omega
            | false =>
              have t8 := t7 rfl
              clear t7
              go_wp2_with fail
              go_roundw
              case rel => exact ⟨i + 1, ⟨HN.out.1, by rw [HV.out.1, ← HN.out.2.2.2.2.1], by rw [HV.out.1, ← HN.out.2.2.2.2.1]; exact HN.out.2.2.2.2.2, by rw [HV.out.2], HN.out.2.1, by go_num, HO.out⟩⟩
              case measure => simp [intOf]; omega
      · have t4 : decide (i < s.size) = false := decide_eq_false hlt
        obtain rfl : i = S.length := by omega
        rw [List.take_length] at hnv hlf
        have hle2 := HX.out.2.2.2.2.1
        rw [← hlf] at hle2
        have hgp := HX.out.2.2.2.2.2
        have HN := Lib.hid (⟨hnv, hft⟩ : _ ∧ _)
        obtain ⟨tl, htl⟩ : ∃ tl, decide (lf < 0) = tl := ⟨_, rfl⟩
        have hlg : (tl = true ∧ g = k) ∨ (tl = false ∧ lf = (g : Int)) := by
          by_cases h : lf < 0
          · left; rw [if_pos h] at hle2; exact ⟨by rw [← htl]; exact decide_eq_true h, by omega⟩
          · right; rw [if_neg h] at hle2; exact ⟨by rw [← htl]; exact decide_eq_false h, by omega⟩
        have HLG := Lib.hid hlg
        clear hnv hlf hft hlo hi hsl hle2 hlg
        go_upto_region 21 with fail
        go_upto_if 86 with fail
        clear htl
        go_cut [11] from 87 to 87 (fun s11 wx => s11 = .int .i64 (g : Int) ∧ wx = wr)
        case first =>
          rcases HLG.out with ⟨rfl, hgk⟩ | ⟨rfl, hgk⟩
          · have HGK := Lib.hid hgk
            clear hgk
            go_wp2_with fail
            go_meet
            exact ⟨by rw [HGK.out], rfl⟩
          · have HGK := Lib.hid hgk
            clear hgk
            go_wp2_with fail
            go_meet
            exact ⟨by rw [HGK.out], rfl⟩
        case rest =>
        obtain ⟨rfl, hwc⟩ := hcut
        obtain ⟨W3, hW3⟩ : ∃ W1, W1 = wc := ⟨_, rfl⟩
        rw [← hW3] at hwc ⊢
        clear hW3
        subst hwc
        have hg9 : g ≤ 9 := by omega
        go_wp2_with fail
        go_loopw [10, 17, 18, 19] (fun v10 v17 _ _ wq => ∃ i : Nat, i ≤ g ∧ PeP (valD (digF S)) i w v10 v17 wq) (fun _ v17 _ _ _ => g - (intOf v17).toNat)
        case atStart => exact ⟨0, Nat.zero_le _, ⟨by rw [HN.out.1, Nat.pow_zero, Nat.mul_one], by rw [Nat.pow_zero, Nat.mul_one, ← HN.out.1]; exact HN.out.2, rfl, HO.out⟩⟩
        case round =>
          obtain ⟨i, hig, ⟨rfl, hft, rfl, ho⟩⟩ := hrel
          obtain ⟨nw, hnw⟩ : ∃ nw : Int, nw = -((valD (digF S) * 10 ^ i : Nat) : Int) := ⟨_, rfl⟩
          rw [← hnw] at hft ⊢
          have HP := Lib.hid (⟨hnw, ho⟩ : _ ∧ _)
          have HM1 := fun W => r1_mul10 nw hft W
          unfold tellV at HM1
          have hv2 := HX.out.2.2.1
          clear ho
          by_cases hlt : i < g
          · have t6 : decide (i < g) = true := decide_eq_true hlt
            have w11 : IntKind.i64.wrap ((i : Int) + 1) = (i : Int) + 1 := by rw [IntKind.wrap_i64]; omega
            have hval : (-((valD (digF S) * 10 ^ (i + 1) : Nat) : Int)) = nw * 10 := by rw [hnw, Nat.pow_succ]; generalize valD (digF S) = y; generalize 10 ^ i = z; rw [← Nat.mul_assoc]; omega
            have hle : valD (digF S) * 10 ^ (i + 1) ≤ v := by
              rw [hv2]
              exact Nat.mul_le_mul_left _ (Nat.pow_le_pow_right (by decide) (by omega))
            obtain ⟨f1, hf1⟩ : ∃ f, fits64 (nw * 10) = f := ⟨_, rfl⟩
            rw [hf1] at HM1
            cases f1 with
            | false =>
              have hb2 := HX.out.2.2.2.1 _ hle (by rw [hval]; exact hf1)
              simp only [Bool.false_eq_true, if_false] at HM1
              have HM1 := fun W => Lib.hid (HM1 W)
              simp only [Prod.mk.injEq] at hb2
              obtain ⟨rfl, rfl, rfl⟩ := hb2
              clear hnw hft hv2 hval hle hf1
              go_wp2_with fail
              refine (HM1 _).out.mono ?_
              rintro e w3 ⟨rfl, o3⟩
              have O3 := Lib.hid o3
              clear o3
              go_wp2_with fail
              go_returns
              exact ⟨rfl, HP.out.2.trans O3.out⟩
            | true =>
              simp only [if_true] at HM1
              obtain ⟨tn, htn⟩ : ∃ tn, tn = nw * 10 := ⟨_, rfl⟩
              rw [← htn] at HM1
              have HM1 := fun W => Lib.hid (HM1 W)
              have HV := Lib.hid (⟨by rw [hval, htn], by rw [hval]; exact hf1⟩ : (-((valD (digF S) * 10 ^ (i + 1) : Nat) : Int)) = tn ∧ fits64 (-((valD (digF S) * 10 ^ (i + 1) : Nat) : Int)) = true)
              clear hnw hft hv2 hval hle hf1 htn
              go_wp2_with fail
              refine (HM1 _).out.mono ?_
              rintro e w3 ⟨rfl, o3⟩
              have O3 := Lib.hid (HP.out.2.trans o3)
              clear o3
              go_wp2_with fail
              go_roundw
              case rel => exact ⟨i + 1, by omega, ⟨by rw [HV.out.1], HV.out.2, by go_num, O3.out⟩⟩
              case measure => simp [intOf]; omega
          · have t6 : decide (i < g) = false := decide_eq_false hlt
            obtain rfl : i = g := by omega
            rw [← hv2] at hnw
            have ea := HX.out.2.1
            have HNG := fun W => r1_neg nw hft W
            have hnn : -nw = (v : Int) := by omega
            unfold tellV at HNG
            rw [hnn] at HNG
            cases m with
            | true =>
              rw [sgnT, ← hnw, hft] at ea
              simp only [if_true, Prod.mk.injEq] at ea
              obtain ⟨rfl, rfl, rfl⟩ := ea
              clear hnw hft hv2 HNG HM1 hnn
              go_wp2_with fail
              go_returns
              exact ⟨rfl, HP.out.2⟩
            | false =>
              have es : sgnV false v = (v : Int) := rfl
              rw [es] at ea
              obtain ⟨f1, hf1⟩ : ∃ f, fits64 (v : Int) = f := ⟨_, rfl⟩
              rw [hf1] at ea HNG
              cases f1 with
              | true =>
                simp only [if_true, Prod.mk.injEq] at ea HNG
                obtain ⟨rfl, rfl, rfl⟩ := ea
                have HNG := fun W => Lib.hid (HNG W)
                clear hnw hft hv2 HM1 hnn es hf1
                go_wp2_with fail
                refine (HNG _).out.mono ?_
                rintro e w4 ⟨rfl, rfl⟩
                go_wp2_with fail
                go_returns
                exact ⟨rfl, HP.out.2⟩
              | false =>
                simp only [Bool.false_eq_true, if_false, Prod.mk.injEq] at ea HNG
                obtain ⟨rfl, rfl, rfl⟩ := ea
                have HNG := fun W => Lib.hid (HNG W)
                clear hnw hft hv2 HM1 hnn es hf1
                go_wp2_with fail
                refine (HNG _).out.mono ?_
                rintro e w4 ⟨rfl, rfl⟩
                go_wp2_with fail
                go_returns
                exact ⟨rfl, HP.out.2⟩
end Go.Proofs.YtkpndnjnckaanaaDoor
