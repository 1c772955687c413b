/- Levels: the library's search over a side's prices, and place, walked. Conditions: a side as its New lays it. -/
import Derived.Test.YtkglplngnjgnhaaLv5
namespace Go.Proofs.Ytkglplngnjgnhaa
set_option linter.unusedVariables false
set_option linter.unusedSimpArgs false
open Go.RowKit

section
variable {w : World} {b gu most : Nat} {sg : Int} {hv : Value} {L : List (Int × Nat)}

set_option maxHeartbeats 4000000 in
set_option maxRecDepth 100000 in
theorem s_search (h : SideAt w b gu most sg hv L) (p : Int) (bs : Nat) (hbs : w.cell? ⟨bs, 0, none⟩ = some (.pointer (some ⟨b, 0, none⟩))) :
    Calls Try.prog 94 #[hv, .int .i64 p, .func (.func 95) #[] #[.pointer (some ⟨bs, 0, none⟩)]] w fun e w' =>
      e = .returned (.tuple #[.int .i64 (pos sg p L : Nat), .bool (has p L)]) ∧ Only (fun _ => False) w w' := by
  have hln := h.len
  have hsm := h.small
  obtain ⟨a, cap, hvv, hcap⟩ := own_slice h.own
  have hpl := pos_le sg p L
  obtain ⟨k, hk⟩ : ∃ k, k = pos sg p L := ⟨_, rfl⟩
  obtain ⟨n, hn⟩ : ∃ n, n = L.length := ⟨_, rfl⟩
  rw [← hn] at hln hcap hpl
  rw [← hk] at hpl ⊢
  rw [hvv, ← hn]
  have HH := Lib.hid h
  have HK := Lib.hid hk
  have HN := Lib.hid hn
  have HV := Lib.hid hvv
  obtain ⟨q, hq⟩ : ∃ q, q = has p L := ⟨_, rfl⟩
  rw [← hq]
  have HQ := Lib.hid hq
  clear hq
  have HBS := Lib.hid hbs
  clear h hk hn hvv hbs
  go_enter Try.func94, Try.ntmps94
  go_wp2_with fail
  go_loopw [9, 10] (fun s9 s10 wr => ∃ i j : Nat, i ≤ k ∧ k ≤ j ∧ j ≤ n ∧ s9 = .int .i64 i ∧ s10 = .int .i64 j ∧ Only (fun _ => False) w wr) (fun s9 s10 _ => (intOf s10).toNat - (intOf s9).toNat)
  case atStart => exact ⟨0, n, by omega, by omega, Nat.le_refl _, rfl, rfl, Only.refl _ _⟩
  case round =>
    obtain ⟨i, j, hi, hj, hjn, rfl, rfl, ho⟩ := hrel
    by_cases hlt : i < j
    · have t1 : decide (i < j) = true := by simpa using hlt
      obtain ⟨m, hm⟩ : ∃ m, m = (i + j) / 2 := ⟨_, rfl⟩
      have hmn : m < n := by omega
      obtain ⟨x, hx⟩ : ∃ x, L[m]? = some x := ⟨_, List.getElem?_eq_getElem (by rw [← HN.out]; exact hmn)⟩
      obtain ⟨g, cap', e, _, hg, v1, v2⟩ := HH.out.at_ hx
      rw [HV.out, ← HN.out] at e
      obtain ⟨rfl, rfl⟩ : a = some ⟨g, 0, none⟩ ∧ cap = cap' := by injection e with e1 e2 e3; exact ⟨e1, e3⟩
      have v1 := ho.cell v1.cell id
      have v2 := ho.cell v2.cell id
      have zg := cell_lt v1
      have im : (0 : Int) ≤ (m : Int) ∧ (m : Int) < (n : Int) := by omega
      have w1 : IntKind.i64.wrap ((i : Int) + (j : Int)) = (i : Int) + (j : Int) := by rw [IntKind.wrap_i64]; omega
      have hC := Lib.hid (s_cmp (HH.out.only ho (fun _ _ => id)) x.1 p x.2 bs (ho.cell HBS.out id))
      have hlt2 := pos_lt (p := p) HH.out.srt hx
      rw [← HK.out] at hlt2
      obtain ⟨c, hc⟩ : ∃ c, c = cmpV sg x.1 p := ⟨_, rfl⟩
      rw [← hc] at hC
      have hmI : ((i : Int) + (j : Int)) / 2 = (m : Int) := by omega
      obtain ⟨xp, xr⟩ := x
      simp only at v1 v2 hC hlt2 hc
      by_cases hcm : c < 0
      · have t2 : decide (c < 0) = true := by simpa using hcm
        have hmk : m < k := hlt2.2 (by unfold cmpV at hc; split at hc; omega; split at hc; assumption; omega)
        have w2 : IntKind.i64.wrap ((m : Int) + 1) = (m : Int) + 1 := by rw [IntKind.wrap_i64]; omega
        have HM := Lib.hid hm
        clear e hx hm hlt2 hc hcm
        go_wp2_with fail
        refine hC.out.mono ?_
        rintro e w2 ⟨rfl, o2⟩
        go_wp2_with fail
        go_roundw
        case rel => exact ⟨m + 1, j, by omega, hj, hjn, by go_num, rfl, ho.trans o2⟩
        case measure => have := HM.out; simp [intOf]; omega
      · have t2 : decide (c < 0) = false := by simpa using hcm
        have hmk : k ≤ m := by
          rcases Nat.lt_or_ge m k with h1 | h1
          · have h2 := hlt2.1 h1
            unfold cmpV at hc
            by_cases h3 : xp = p
            · rw [h3] at h2; omega
            · rw [if_neg h3, if_pos h2] at hc; omega
          · exact h1
        have HM := Lib.hid hm
        clear e hx hm hlt2 hc hcm
        go_wp2_with fail
        refine hC.out.mono ?_
        rintro e w2 ⟨rfl, o2⟩
        go_wp2_with fail
        go_roundw
        case rel => exact ⟨i, m, hi, hmk, by omega, rfl, rfl, ho.trans o2⟩
        case measure => have := HM.out; simp [intOf]; omega
    · have t1 : decide (i < j) = false := by simpa using hlt
      obtain rfl : i = k := by omega
      by_cases hin : i < n
      · have t2 : decide (i < n) = true := by simpa using hin
        obtain ⟨x, hx⟩ : ∃ x, L[i]? = some x := ⟨_, List.getElem?_eq_getElem (by rw [← HN.out]; exact hin)⟩
        obtain ⟨g, cap', e, _, hg, v1, v2⟩ := HH.out.at_ hx
        rw [HV.out, ← HN.out] at e
        obtain ⟨rfl, rfl⟩ : a = some ⟨g, 0, none⟩ ∧ cap = cap' := by injection e with e1 e2 e3; exact ⟨e1, e3⟩
        have v1 := ho.cell v1.cell id
        have v2 := ho.cell v2.cell id
        have zg := cell_lt v1
        have im : (0 : Int) ≤ (i : Int) ∧ (i : Int) < (n : Int) := by omega
        have hC := Lib.hid (s_cmp (HH.out.only ho (fun _ _ => id)) x.1 p x.2 bs (ho.cell HBS.out id))
        have hhas : (cmpV sg x.1 p == 0) = q := by
          rw [HQ.out, Bool.eq_iff_iff, has_at HH.out.hsg HH.out.srt, ← HK.out]
          simp only [beq_iff_eq]
          constructor
          · intro h
            refine ⟨x, hx, ?_⟩
            unfold cmpV at h
            split at h
            · assumption
            · split at h <;> omega
          · rintro ⟨y, hy, e⟩
            rw [hx] at hy
            injection hy with hy
            subst hy
            unfold cmpV
            rw [if_pos e]
        obtain ⟨c, hc⟩ : ∃ c, c = cmpV sg x.1 p := ⟨_, rfl⟩
        rw [← hc] at hC hhas
        have HHAS := Lib.hid hhas
        obtain ⟨xp, xr⟩ := x
        simp only at v1 v2 hC
        clear e hx hc hhas
        go_wp2_with fail
        refine hC.out.mono ?_
        rintro e w2 ⟨rfl, o2⟩
        go_wp2_with fail
        go_returns
        exact ⟨by rw [HHAS.out]; rfl, ho.trans o2⟩
      · have t2 : decide (i < n) = false := by simpa using hin
        have hhas : has p L = false := by
          rw [← Bool.not_eq_true, has_at HH.out.hsg HH.out.srt, ← HK.out]
          rintro ⟨x, hx, _⟩
          have := (List.getElem?_eq_some_iff.1 hx).1
          rw [← HN.out] at this
          omega
        have hqf := HQ.out.trans hhas
        subst hqf
        clear hhas
        go_wp2_with fail
        go_returns
        exact ⟨rfl, ho⟩

theorem s_place (h : SideAt w b gu most sg hv L) (p : Int) :
    Calls Try.prog 41 #[.pointer (some ⟨b, 0, none⟩), .int .i64 p] w fun e w' => e = .returned (.tuple #[.int .i64 (pos sg p L : Nat), .bool (has p L)]) ∧ Only (fun _ => False) w w' := by
  have c1 := h.c1.cell
  have z1 := cell_lt c1
  have HS := fun W bs hbs (o : Only (fun _ => False) w W) => Lib.hid (s_search (w := W) (h.only o (fun _ _ => id)) p bs hbs)
  generalize pos sg p L = k at *
  generalize has p L = q at *
  obtain ⟨a, cap, hvv, hcap⟩ := own_slice h.own
  rw [hvv] at c1 HS
  clear h hvv
  go_enter Try.func41, Try.ntmps41
  go_wp2_with fail
  refine (HS _ w.heap.size (Cell.new rfl).cell (by repeat' (first | (with_reducible exact Only.refl _ _) | (with_reducible assumption) | (refine Only.of_none ?_; with_reducible assumption) | (with_reducible refine Only.drewN ?_ _) | (with_reducible refine Only.drew ?_) | (with_reducible refine Only.alloc ?_ _) | (with_reducible refine Only.setCell ?_ ?_ _) | (with_reducible refine Only.then0 ?_ (by with_reducible assumption)) | (with_reducible refine Only.thenN ?_ (by with_reducible assumption) ?_) | (with_reducible refine Only.trans ?_ (by with_reducible assumption)) | (refine .inl ?_; first | rfl | (simp; done) | (simp [Ar.blk]; done)) | (refine .inr ?_; first | omega | (simp; done) | (simp; omega) | exact Only.size (by with_reducible assumption) | (refine Nat.le_trans (Only.size (by with_reducible assumption)) ?_; simp; done))))).out.mono ?_
  rintro e w2 ⟨rfl, o2⟩
  go_wp2_with fail
  go_returns
  exact ⟨rfl, by repeat' (first | (with_reducible exact Only.refl _ _) | (with_reducible assumption) | (refine Only.of_none ?_; with_reducible assumption) | (with_reducible refine Only.drewN ?_ _) | (with_reducible refine Only.drew ?_) | (with_reducible refine Only.alloc ?_ _) | (with_reducible refine Only.setCell ?_ ?_ _) | (with_reducible refine Only.then0 ?_ (by with_reducible assumption)) | (with_reducible refine Only.thenN ?_ (by with_reducible assumption) ?_) | (with_reducible refine Only.trans ?_ (by with_reducible assumption)) | (refine .inl ?_; first | rfl | (simp; done) | (simp [Ar.blk]; done)) | (refine .inr ?_; first | omega | (simp; done) | (simp; omega) | exact Only.size (by with_reducible assumption) | (refine Nat.le_trans (Only.size (by with_reducible assumption)) ?_; simp; done)))⟩
end
end Go.Proofs.Ytkglplngnjgnhaa
