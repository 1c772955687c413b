/- The document's side: Add. Conditions: a side as its New lays it, the prices from better to worse. -/
import Derived.Test.YtkglplngnjgnhaaRl1
import Derived.Laws.AppendOwnNone
namespace Go.Proofs.Ytkglplngnjgnhaa
set_option linter.unusedVariables false
set_option linter.unusedSimpArgs false
open Go.RowKit

theorem Try.infoPrice : (Try.prog.info? 161).map (fun i => (i.zero, i.size, i.bytes)) = some (some (.agg #[.int .i64 0, .int .i64 0]), 2, 16) := by kernel_rfl

/-- The document's side is another one. -/
def R5Post (rb : Nat) (sd : Int) (most : Nat) (sg : Int) (hv : Value) (L' : List Lvl) (w : World) (v : Value) (e : Ending) (w' : World) : Prop :=
  ∃ hv', e = .returned v ∧ R5At w' rb sd most sg hv' L' ∧ Only (R5B rb hv) w w' ∧ (hv'.ownBlock = none ∨ hv'.ownBlock = hv.ownBlock ∨ ∃ g, hv'.ownBlock = some g ∧ w.heap.size ≤ g)

section
variable {w : World} {rb most : Nat} {sd sg : Int} {hv : Value} {L : List Lvl}

theorem R5At.row (h : R5At w rb sd most sg hv L) {w' : World} {v' : Value} {L' : List Lvl} (ho : Only (fun _ => False) w w') (hown : w'.ownsRow 0 161 2 v' L'.length (lvV L'))
    (hloc : v'.ownBlock = none ∨ ∃ g, v'.ownBlock = some g ∧ w.heap.size ≤ g) (v : Value) : R5Post rb sd most sg hv L' w v (.returned v) (w'.setCell ⟨rb, 2, none⟩ v') := by
  have hb := h.c0.lt
  have sep' : ∀ g, v'.ownBlock = some g → g ≠ rb := fun g e => by
    rcases hloc with e' | ⟨g', e', hg'⟩
    · rw [e'] at e; cases e
    · rw [e'] at e; injection e with e; omega
  have o3 := (Only.refl (· = rb) w').setCell (p := ⟨rb, 2, none⟩) (.inl rfl) v'
  refine ⟨v', rfl, ⟨(h.c0.only ho id).far (off_ne (by omega)) _, (h.c1.only ho id).far (off_ne (by omega)) _, (h.c2.only ho id).set v', ⟨hown.1, ?_⟩, sep', h.hsd⟩, (Only.of_none ho).setCell (.inl (.inl rfl)) _, ?_⟩
  · rcases hown.2 with hn | ⟨g, cap, cur, e, hb', hgg, rest⟩
    · exact .inl hn
    · exact .inr ⟨g, cap, cur, e, hb', (o3.block g (Array.getElem?_eq_some_iff.1 hgg).1 (sep' g (by rw [e]; rfl))).trans hgg, rest⟩
  · rcases hloc with e | e
    · exact .inl e
    · exact .inr (.inr e)

theorem r_add_bad (h : R5At w rb sd most sg hv L) (ok : LvOk most sg L) (p : Int) (hp : p < 1 ∨ 1000000000 < p) :
    Calls Try.prog 46 #[.pointer (some ⟨rb, 0, none⟩), .int .i64 p] w fun e w' => e = .returned (.tuple #[.int .i64 0, .int .i64 1]) ∧ w = w' := by
  have hno : has p L = false := by
    rw [← Bool.not_eq_true, has_iff]
    rintro ⟨x, hx, rfl⟩
    have := ok.pr x hx
    omega
  have HF := Lib.hid (r_find_no h ok p hno)
  clear h ok hno
  by_cases h1 : p < 1
  · have t1 : decide (p < 1) = true := by simpa using h1
    clear hp
    go_enter Try.func46, Try.ntmps46
    go_wp2_with fail
    refine HF.out.mono ?_
    rintro e w1 ⟨rfl, rfl⟩
    go_wp2_with fail
    go_returns
    exact ⟨rfl, rfl⟩
  · have t1 : decide (p < 1) = false := by simpa using h1
    have t2 : decide (1000000000 < p) = true := by simp; omega
    clear hp
    go_enter Try.func46, Try.ntmps46
    go_wp2_with fail
    refine HF.out.mono ?_
    rintro e w1 ⟨rfl, rfl⟩
    go_wp2_with fail
    go_returns
    exact ⟨rfl, rfl⟩

theorem r_add_twice (h : R5At w rb sd most sg hv L) (ok : LvOk most sg L) (p : Int) (h1 : 1 ≤ p) (h2 : p ≤ 1000000000) (hp : has p L = true) :
    Calls Try.prog 46 #[.pointer (some ⟨rb, 0, none⟩), .int .i64 p] w fun e w' => e = .returned (.tuple #[.int .i64 0, .int .i64 52]) ∧ w = w' := by
  obtain ⟨⟨q, r⟩, hx, rfl⟩ := has_iff.1 hp
  simp only at *
  have HF := Lib.hid (r_find h ok q r hx)
  have t1 : decide (q < 1) = false := by simp; omega
  have t2 : decide (1000000000 < q) = false := by simp; omega
  have t3 : decide ((0 : Int) ≤ (r : Int)) = true := by simp
  clear h ok hx hp
  go_enter Try.func46, Try.ntmps46
  go_wp2_with fail
  refine HF.out.mono ?_
  rintro e w1 ⟨rfl, rfl⟩
  go_wp2_with fail
  go_returns
  exact ⟨rfl, rfl⟩

theorem r_add_full (h : R5At w rb sd most sg hv L) (ok : LvOk most sg L) (p : Int) (h1 : 1 ≤ p) (h2 : p ≤ 1000000000) (hp : has p L = false) (hf : most ≤ L.length) :
    Calls Try.prog 46 #[.pointer (some ⟨rb, 0, none⟩), .int .i64 p] w fun e w' => e = .returned (.tuple #[.int .i64 0, .int .i64 50]) ∧ Only (fun _ => False) w w' := by
  have HF := Lib.hid (r_find_no h ok p hp)
  have c2 := h.c2.cell
  have c1 := h.c1.cell
  obtain ⟨a, cap, hvv, hcap⟩ := own_slice h.own
  rw [hvv] at c2
  have z1 := cell_lt c2
  generalize L.length = n at *
  have t1 : decide (p < 1) = false := by simp; omega
  have t2 : decide (1000000000 < p) = false := by simp; omega
  have t4 : decide (most ≤ n) = true := by simpa using hf
  have t4' : decide ((most : Int) ≤ (n : Int)) = true := by simp; omega
  clear h ok hp hvv
  go_enter Try.func46, Try.ntmps46
  go_wp2_with fail
  refine HF.out.mono ?_
  rintro e w1 ⟨rfl, rfl⟩
  go_wp2_with fail
  go_quiet (fail)
  go_wp2_with fail
  go_returns
  exact ⟨rfl, by repeat' (first | (with_reducible exact Only.refl _ _) | (with_reducible assumption) | (refine Only.of_none ?_; with_reducible assumption) | (with_reducible refine Only.drewN ?_ _) | (with_reducible refine Only.drew ?_) | (with_reducible refine Only.alloc ?_ _) | (with_reducible refine Only.setCell ?_ ?_ _) | (with_reducible refine Only.then0 ?_ (by with_reducible assumption)) | (with_reducible refine Only.thenN ?_ (by with_reducible assumption) ?_) | (with_reducible refine Only.trans ?_ (by with_reducible assumption)) | (refine .inl ?_; first | rfl | (simp; done) | (simp [Ar.blk]; done)) | (refine .inr ?_; first | omega | (simp; done) | (simp; omega) | exact Only.size (by with_reducible assumption) | (refine Nat.le_trans (Only.size (by with_reducible assumption)) ?_; simp; done)))⟩

/-- Where the loops over rows stand. -/
structure RowSt (L : List Lvl) (r : Nat) (ρ : Nat) : Prop where
  all : ∀ k, k < ρ → k ∈ L.map Prod.snd
  le : ρ ≤ r

set_option maxHeartbeats 8000000 in
set_option maxRecDepth 100000 in
theorem r_add_some (g cap : Nat) (hvv : hv = .slice (some ⟨g, 0, none⟩) L.length cap) (h : R5At w rb sd most sg hv L) (ok : LvOk most sg L) (p : Int) (h1 : 1 ≤ p) (h2 : p ≤ 1000000000) (hp : has p L = false) (r : Nat) (hrn : r ∉ L.map Prod.snd) (hmin : ∀ k, k < r → k ∈ L.map Prod.snd) (hl : L.length < most) :
    Calls Try.prog 46 #[.pointer (some ⟨rb, 0, none⟩), .int .i64 p] w (R5Post rb sd most sg hv (put sg p r L) w (.tuple #[.int .i64 (r : Nat), .int .i64 0])) := by
  obtain ⟨i3, hi3, hz3, hs3, hb3⟩ := info_parts Try.infoPrice
  have HF := Lib.hid (r_find_no h ok p hp)
  have HB := fun W (o : Only (fun _ => False) w W) => Lib.hid (r_better (h.only o (fun _ _ => id)) ok p)
  have hsm := ok.small
  have c2 := h.c2.cell
  rw [hvv] at c2
  have c1 := h.c1.cell
  have z1 := cell_lt c2
  have hr128 : r ≤ L.length := by
    have := nodup_len (List.range r) (L.map Prod.snd) List.nodup_range (fun x hx => hmin x (by simpa using hx))
    simpa using this
  have hpl := pos_le sg p L
  obtain ⟨k, hk⟩ : ∃ k, k = pos sg p L := ⟨_, rfl⟩
  have hcells : lvV (put sg p r L) = (lvV L).take (k * 2) ++ [.int .i64 p, .int .i64 (r : Int)] ++ (lvV L).drop (k * 2) := by
    unfold put
    rw [lvV_append, lvV_append, lvV_take, lvV_drop, ← hk]; rfl
  simp only [← hk] at HB
  rw [← hk] at hpl
  have hown := h.own
  have hcw : ∀ W (o : Only (fun _ => False) w W), ∀ j u, (lvV L)[j]? = some u → W.cell? ⟨g, j, none⟩ = some u := fun W o j u hu => by
    rcases hown.2 with ⟨e, _⟩ | ⟨g', cap', cur, e, _, hgg, _, _, _, hct⟩
    · rw [hvv] at e; cases e
    · rw [hvv] at e
      injection e with e1 e2 e3
      injection e1 with e1
      injection e1 with e1
      subst e1
      refine o.cell ?_ id
      rw [← hct, List.getElem?_take] at hu
      split at hu
      · rw [cell_of_row w g j cur _ _ hgg]; simpa using hu
      · cases hu
  have hncap : L.length ≤ cap := by
    obtain ⟨a', cap', e, hc⟩ := own_slice hown
    rw [hvv] at e
    injection e with e1 e2 e3
    omega
  obtain ⟨n, hn⟩ : ∃ n, n = L.length := ⟨_, rfl⟩
  have hxl : (lvV L).length = n * 2 := by rw [lvV_length, hn]
  have ht1 : ((lvV L).take (k * 2)).length = k * 2 := by rw [List.length_take]; omega
  have ht2 : ((lvV L).drop (k * 2)).length = (n - k) * 2 := by rw [List.length_drop]; omega
  have hone := lvV_one L
  have hpn : (put sg p r L).length = n + 1 := by rw [put_len, hn]
  have hn1 : ∀ W (o : Only (fun _ => False) w W), ∀ j u, ((lvV L).take (k * 2))[j]? = some u → W.cell? ((⟨g, 0, none⟩ : Addr).add j) = some u := fun W o j u hu => by
    rw [show (⟨g, 0, none⟩ : Addr).add j = ⟨g, j, none⟩ by unfold Addr.add; split <;> simp_all]
    rw [List.getElem?_take] at hu
    split at hu
    · exact hcw W o j u hu
    · cases hu
  have hsrc : ∃ A, (if cap = k then some (⟨g, 0, none⟩ : Addr) else some ⟨g, k * 2, none⟩) = some A ∧ ∀ W (o : Only (fun _ => False) w W), ∀ j u, ((lvV L).drop (k * 2))[j]? = some u → W.cell? (A.add j) = some u := by
    by_cases e : cap = k
    · refine ⟨_, if_pos e, fun W o j u hu => ?_⟩
      have := (List.getElem?_eq_some_iff.1 hu).1
      rw [ht2] at this; omega
    · refine ⟨_, if_neg e, fun W o j u hu => ?_⟩
      rw [show (⟨g, k * 2, none⟩ : Addr).add j = ⟨g, k * 2 + j, none⟩ by unfold Addr.add; split <;> simp_all]
      rw [List.getElem?_drop] at hu
      exact hcw W o _ u hu
  obtain ⟨A, hA, hsrc⟩ := hsrc
  obtain ⟨xs1, hx1⟩ : ∃ xs1, xs1 = (lvV L).take (k * 2) := ⟨_, rfl⟩
  obtain ⟨xs2, hx2⟩ : ∃ xs2, xs2 = (lvV L).drop (k * 2) := ⟨_, rfl⟩
  rw [← hx1, ← hx2] at hcells
  rw [← hx1] at ht1 hn1
  rw [← hx2] at ht2 hsrc
  have ho1 : ∀ u ∈ xs1, u.oneCell' = true := fun u hu => by rw [hx1] at hu; exact hone u (List.mem_of_mem_take hu)
  have ho2 : ∀ u ∈ xs2, u.oneCell' = true := fun u hu => by rw [hx2] at hu; exact hone u (List.mem_of_mem_drop hu)
  rw [← hn] at c2
  rw [← hn] at hl hr128 hpl hncap
  have hat : ∀ j, j < n → ∃ x : Lvl, L[j]? = some x ∧ Cell w g (j * 2 + 1) (.int .i64 (x.2 : Int)) := fun j hj => by
    obtain ⟨x, hx⟩ : ∃ x, L[j]? = some x := ⟨_, List.getElem?_eq_getElem (by rw [← hn]; exact hj)⟩
    obtain ⟨g', cap', e, _, _, _, v2⟩ := h.at_ hx
    rw [hvv] at e
    obtain rfl : g = g' := by injection e with e1; injection e1 with e1; injection e1 with e1
    exact ⟨x, hx, v2⟩
  have HAT := Lib.hid hat
  have HH := Lib.hid h
  have C2W := Lib.hid c2
  have HVV := Lib.hid hvv
  have C2F := Lib.hid h.c2.free
  have HC := Lib.hid hcells
  have HN1 := Lib.hid hn1
  have HSRC := Lib.hid hsrc
  have HO1 := Lib.hid ho1
  have HO2 := Lib.hid ho2
  have HT1 := Lib.hid ht1
  have HT2 := Lib.hid ht2
  have HPN := Lib.hid hpn
  have HNE := Lib.hid hn
  have HRN := Lib.hid hrn
  have HMIN := Lib.hid hmin
  have t1 : decide (p < 1) = false := by simp; omega
  have t2 : decide (1000000000 < p) = false := by simp; omega
  have t4 : decide (most ≤ n) = false := by simp; omega
  have t4' : decide ((most : Int) ≤ (n : Int)) = false := by simp; omega
  have hkn : (k : Int) ≤ (cap : Int) := by omega
  have hkn2 : (k : Int) ≤ (n : Int) := by omega
  clear h ok hp hn1 hsrc ho1 ho2 ht1 ht2 hx1 hx2 hone hcells hown hcw hxl hk hpn hn hrn hmin hat hvv
  go_enter Try.func46, Try.ntmps46
  go_wp2_with fail
  refine HF.out.mono ?_
  rintro e w1 ⟨rfl, rfl⟩
  clear HF
  go_wp2_with fail
  go_quiet (fail)
  go_wp2_with fail
  go_loop [7, 8] (fun s7 s8 => ∃ (ρ : Nat) (q : Bool), s7 = .int .i64 ρ ∧ s8 = .bool q ∧ RowSt L r ρ ∧ (q = false → ρ = r)) (fun s7 s8 => (r - (intOf s7).toNat) + (match s8 with | .bool true => 1 | _ => 0))
  case atStart => exact ⟨0, true, rfl, rfl, ⟨fun k hk => by omega, by omega⟩, fun h => by cases h⟩
  case round =>
    obtain ⟨ρ, q, rfl, rfl, hst, hq⟩ := hrel
    have hle := hst.le
    have HST := Lib.hid hst
    clear hst
    cases q with
    | true =>
      clear hq
      go_wp2_with fail
      go_loop [7, 8, 9] (fun s7 s8 s9 => ∃ (ρ' j : Nat) (q' : Bool), j ≤ n ∧ s7 = .int .i64 ρ' ∧ s8 = .bool q' ∧ s9 = .int .i64 j ∧ RowSt L r ρ' ∧ (q' = true → ρ < ρ') ∧ (q' = false → ρ' = ρ ∧ ∀ x ∈ L.take j, x.2 ≠ ρ)) (fun _ _ s9 => n - (intOf s9).toNat)
      case atStart => exact ⟨ρ, 0, false, by omega, rfl, rfl, rfl, HST.out, (fun h => by cases h), (fun _ => ⟨rfl, by simp⟩)⟩
      case round =>
        obtain ⟨ρ', j, q', hj, rfl, rfl, rfl, hst', hq1, hq2⟩ := hrel
        have hle' := hst'.le
        have HST' := Lib.hid hst'
        have HQ1 := Lib.hid hq1
        have HQ2 := Lib.hid hq2
        clear hst' hq1 hq2
        by_cases hlt : j < n
        · have tj : decide (j < n) = true := by simpa using hlt
          have ij : (0 : Int) ≤ (j : Int) ∧ (j : Int) < (n : Int) := by omega
          obtain ⟨x, hx, hv2⟩ := HAT.out j hlt
          have v2 := hv2.cell
          have zg := cell_lt v2
          have w2' : IntKind.i64.wrap ((j : Int) + 1) = (j : Int) + 1 := by rw [IntKind.wrap_i64]; omega
          have w3' : IntKind.i64.wrap ((ρ' : Int) + 1) = (ρ' : Int) + 1 := by rw [IntKind.wrap_i64]; omega
          by_cases he : x.2 = ρ'
          · have hin : ρ' ∈ L.map Prod.snd := by rw [← he]; exact List.mem_map.2 ⟨x, List.mem_of_getElem? hx, rfl⟩
            have hlt' : ρ' < r := by
              rcases Nat.lt_or_ge ρ' r with h | h
              · exact h
              · exact absurd (by rw [show r = ρ' by omega]; exact hin) HRN.out
            have hnew : RowSt L r (ρ' + 1) := ⟨fun k hk => by
              rcases Nat.lt_or_ge k ρ' with h | h
              · exact HST'.out.all k h
              · rw [show k = ρ' by omega]; exact hin, by omega⟩
            have hge : ρ < ρ' + 1 := by
              cases hqq : q' with
              | true => have := HQ1.out hqq; omega
              | false => have := (HQ2.out hqq).1; omega
            have HNEW := Lib.hid hnew
            obtain ⟨xp, xr⟩ := x
            simp only at v2 he
            subst he
            have te : (xr == xr) = true := by simp
            clear hx hv2 hin hnew
            go_wp2_with fail
            go_round
            case rel => exact ⟨xr + 1, j + 1, true, by omega, by go_num, rfl, by go_num, HNEW.out, fun _ => hge, fun h => by cases h⟩
            case measure => simp [intOf]; omega
          · have hnext : q' = false → ρ' = ρ ∧ ∀ y ∈ L.take (j + 1), y.2 ≠ ρ := fun hqq => by
              obtain ⟨e1, e2⟩ := HQ2.out hqq
              refine ⟨e1, fun y hy => ?_⟩
              rw [List.take_add_one, hx] at hy
              simp only [Option.toList_some, List.mem_append, List.mem_singleton] at hy
              rcases hy with hy | rfl
              · exact e2 y hy
              · rw [← e1]; exact he
            have HNX := Lib.hid hnext
            obtain ⟨xp, xr⟩ := x
            simp only at v2 he
            have te : (xr == ρ') = false := by simpa using he
            have te' : ((xr : Int) == (ρ' : Int)) = false := by simp; omega
            clear hx hv2 he hnext
            go_wp2_with fail
            go_round
            case rel => exact ⟨ρ', j + 1, q', by omega, rfl, rfl, by go_num, HST'.out, HQ1.out, HNX.out⟩
            case measure => simp [intOf]; omega
        · have tj : decide (j < n) = false := by simpa using hlt
          have hend : q' = false → ρ' = r := fun hqq => by
            obtain ⟨e1, e2⟩ := HQ2.out hqq
            rw [List.take_of_length_le (by rw [← HNE.out]; omega)] at e2
            rcases Nat.lt_or_ge ρ' r with h | h
            · obtain ⟨y, hy, e⟩ := List.mem_map.1 (HMIN.out ρ' h)
              exact absurd (e.trans e1) (e2 y hy)
            · omega
          have HEND := Lib.hid hend
          have hdec : (r - ρ') + (match (Value.bool q') with | .bool true => 1 | _ => 0) < (r - ρ) + 1 := by
            cases hqq : q' with
            | true => have := HQ1.out hqq; simp; omega
            | false => have := (HQ2.out hqq).1; simp; omega
          have HDEC := Lib.hid hdec
          clear hend hdec
          go_wp2_with fail
          go_round
          case rel => exact ⟨ρ', q', rfl, rfl, HST'.out, HEND.out⟩
          case measure => have := HDEC.out; simpa [intOf] using this
    | false =>
      have e := hq rfl
      subst e
      clear hq hle
      go_wp2_with fail
      refine (HB _ (by repeat' (first | (with_reducible exact Only.refl _ _) | (with_reducible assumption) | (refine Only.of_none ?_; with_reducible assumption) | (with_reducible refine Only.drewN ?_ _) | (with_reducible refine Only.drew ?_) | (with_reducible refine Only.alloc ?_ _) | (with_reducible refine Only.setCell ?_ ?_ _) | (with_reducible refine Only.then0 ?_ (by with_reducible assumption)) | (with_reducible refine Only.thenN ?_ (by with_reducible assumption) ?_) | (with_reducible refine Only.trans ?_ (by with_reducible assumption)) | (refine .inl ?_; first | rfl | (simp; done) | (simp [Ar.blk]; done)) | (refine .inr ?_; first | omega | (simp; done) | (simp; omega) | exact Only.size (by with_reducible assumption) | (refine Nat.le_trans (Only.size (by with_reducible assumption)) ?_; simp; done))))).out.mono ?_
      rintro e w4 ⟨rfl, o4⟩
      have o04 : Only (fun _ => False) w w4 := by repeat' (first | (with_reducible exact Only.refl _ _) | (with_reducible assumption) | (refine Only.of_none ?_; with_reducible assumption) | (with_reducible refine Only.drewN ?_ _) | (with_reducible refine Only.drew ?_) | (with_reducible refine Only.alloc ?_ _) | (with_reducible refine Only.setCell ?_ ?_ _) | (with_reducible refine Only.then0 ?_ (by with_reducible assumption)) | (with_reducible refine Only.thenN ?_ (by with_reducible assumption) ?_) | (with_reducible refine Only.trans ?_ (by with_reducible assumption)) | (refine .inl ?_; first | rfl | (simp; done) | (simp [Ar.blk]; done)) | (refine .inr ?_; first | omega | (simp; done) | (simp; omega) | exact Only.size (by with_reducible assumption) | (refine Nat.le_trans (Only.size (by with_reducible assumption)) ?_; simp; done)))
      have c2 := o04.cell c2 id
      have z1 := cell_lt c2
      have N1 := Lib.hid (HN1.out w4 o04)
      have O04 := Lib.hid o04
      have HOP := Lib.hid (show ∀ u ∈ [Value.int .i64 p, Value.int .i64 (ρ : Nat)], u.oneCell' = true from fun u hu => by
        rcases List.mem_cons.1 hu with rfl | hu
        · rfl
        · rcases List.mem_cons.1 hu with rfl | hu
          · rfl
          · cases hu)
      clear HB
      go_wp2_with (first
        | (at_builtin; with_reducible refine wpList_append_own_at _ rfl (.tmp 61) (.tmp 67) 113 rfl 0 161 i3 (.agg #[.int .i64 0, .int .i64 0]) 2 16 Try.underlying113 hi3 hz3 hs3 hb3 rfl (by decide) (.slice none 0 0) 0 [] rfl (World.ownsRow_nil _ _ _ _) ⟨g, 0, none⟩ k cap xs1 rfl HT1.out N1.out HO1.out (by unfold maxLen; omega) (by omega) (Nat.zero_le _) ?_; intro v1 w5 hown1 hgrow1 hnil1 hat1; clear hnil1; simp only [Nat.zero_add, List.nil_append] at hown1; obtain ⟨a1, cap1, rfl, hcap1⟩ := own_slice hown1; have HOWN1 := Lib.hid hown1; have HAT1 := Lib.hid hat1; have o05 : Only (fun _ => False) w w5 := O04.out.trans (Only.of_grown hgrow1 (fun q e => by simp [Value.ownBlock] at e)); have O05 := Lib.hid o05; clear hown1 hgrow1 hat1 o05)
        | (at_builtin; with_reducible refine wpList_append_own_at _ rfl (.tmp 69) (.tmp 73) 113 rfl 0 161 i3 (.agg #[.int .i64 0, .int .i64 0]) 2 16 Try.underlying113 hi3 hz3 hs3 hb3 rfl (by decide) (.slice a1 k cap1) k xs1 rfl (HOWN1.out.alloc _) ⟨w5.heap.size, 0, none⟩ 1 1 [.int .i64 p, .int .i64 (ρ : Nat)] rfl rfl (cell_pair_new _ _ _ _) HOP.out (by unfold maxLen; omega) (by omega) (Nat.zero_le _) ?_; intro v2 w6 hown2 hgrow2 hnil2 hat2; clear hnil2; obtain ⟨a2, cap2, rfl, hcap2⟩ := own_slice hown2; have HOWN2 := Lib.hid hown2; have hb1 : ∀ q, (Value.slice a1 k cap1).ownBlock = some q → w.heap.size ≤ q := (fun q e => by rcases HAT1.out with h | h; (rw [h] at e; simp [Value.ownBlock] at e); (rw [h] at e; injection e with e; have := O04.out.size; omega)); have o06 : Only (fun _ => False) w w6 := (O05.out.alloc _).new (Only.of_grown hgrow2 (fun q e => hb1 q e)); have hb2 : ∀ q, (Value.slice a2 (k + 1) cap2).ownBlock = some q → w.heap.size ≤ q := (fun q e => by rcases hat2 with h | h; (rw [h] at e; exact hb1 q e); (rw [h] at e; injection e with e; have := (O05.out.alloc (.cells #[.int .i64 p, .int .i64 (ρ : Nat)] 161)).size; omega)); have HB2 := Lib.hid hb2; have O06 := Lib.hid o06; have c26 := o06.cell C2W.out id; have z26 := cell_lt c26; have N3 := Lib.hid (HSRC.out w6 o06); clear hown2 hgrow2 hat2 o06 hb1 hb2)
        | (at_builtin; with_reducible refine wpList_append_own_at _ rfl (.tmp 76) (.tmp 82) 113 rfl 0 161 i3 (.agg #[.int .i64 0, .int .i64 0]) 2 16 Try.underlying113 hi3 hz3 hs3 hb3 rfl (by decide) (.slice a2 (k + 1) cap2) (k + 1) (xs1 ++ [.int .i64 p, .int .i64 (ρ : Nat)]) rfl HOWN2.out A (n - k) (cap - k) xs2 rfl HT2.out N3.out HO2.out (by unfold maxLen; omega) (by omega) (Nat.zero_le _) ?_; intro v3 w7 hown3 hgrow3 hnil3 hat3; clear hnil3; obtain ⟨a3, cap3, rfl, hcap3⟩ := own_slice hown3; have HOWN3 := Lib.hid hown3; have o07 : Only (fun _ => False) w w7 := O06.out.new (Only.of_grown hgrow3 (fun q e => HB2.out q e)); have hb3' : (Value.slice a3 (k + 1 + (n - k)) cap3).ownBlock = none ∨ ∃ q, (Value.slice a3 (k + 1 + (n - k)) cap3).ownBlock = some q ∧ w.heap.size ≤ q := (by rcases hq : (Value.slice a3 (k + 1 + (n - k)) cap3).ownBlock with _ | q; exact .inl rfl; refine .inr ⟨q, rfl, ?_⟩; rcases hat3 with h | h; exact HB2.out q (h.symm.trans hq); (rw [h] at hq; injection hq with hq; have := O06.out.size; omega)); have HB3 := Lib.hid hb3'; have O07 := Lib.hid o07; have k7 := HH.out.c2.only o07 id; have c27 := k7.cell; have f27 := k7.free; rw [HVV.out] at c27; have z27 := cell_lt c27; clear hown3 hgrow3 hat3 o07 hb3' k7))
      go_returns
      have hR := R5At.row HH.out O07.out (v' := .slice a3 (k + 1 + (n - k)) cap3) (L' := put sg p ρ L) (by
        rw [HPN.out, HC.out, ← show k + 1 + (n - k) = n + 1 by omega]
        exact HOWN3.out) HB3.out (.tuple #[.int .i64 (ρ : Nat), .int .i64 0])
      exact hR
end
end Go.Proofs.Ytkglplngnjgnhaa
