/- The document's book: Prices, Fits. Conditions: a book as its New lays it. -/
import Derived.Test.YtilngakgofjmpaaR6e
namespace Go.Proofs.Ytilngakgofjmpaa
set_option linter.unusedVariables false
set_option linter.unusedSimpArgs false
open Go.RowKit Go.Shelf
open Od (OrdR)

section
variable {w : World} {r most room : Nat} {vv : Bool → Value} {T : Nat → Prop} {l : Bool → List OrdR}
theorem Good.qs (g : Good most room l) (q : Bool) : ∀ o ∈ l q, 1 ≤ o.q ∧ o.q ≤ 1000000000 := fun o ho => (g.ok q o ho).2.2.2.2.2.2
theorem Good.le (g : Good most room l) (q : Bool) : (l q).length ≤ 256 := by
  have h1 := g.len
  have h2 := g.small.1
  cases q <;> omega
theorem Good.dep (g : Good most room l) (q : Bool) : (depthL (l q)).length ≤ most := by
  have := g.prices q
  rwa [← dep_prices, List.length_map] at this

theorem r6_fits_side (s p : Int) (hs : sidedB s = false) :
    Calls Try.prog 93 #[.pointer (some ⟨r, 0, none⟩), .int .u8 s, .int .i64 p] w fun e w' => e = .returned (.int .i64 1) ∧ Only (fun _ => False) w w' := by
  have HS := Lib.hid (r6_sided s w)
  rw [hs] at HS
  clear hs
  go_enter Try.func93, Try.ntmps93
  go_wp2_with fail
  refine HS.out.mono ?_
  rintro e w1 ⟨rfl, rfl⟩
  go_wp2_with fail
  go_returns
  exact ⟨rfl, by repeat' (first | (with_reducible exact Only.refl _ _) | (with_reducible assumption) | (refine Only.of_none ?_; with_reducible assumption) | (with_reducible refine Only.drewN ?_ _) | (with_reducible refine Only.drew ?_) | (with_reducible refine Only.alloc ?_ _) | (with_reducible refine Only.setCell ?_ ?_ _) | (with_reducible refine Only.then0 ?_ (by with_reducible assumption)) | (with_reducible refine Only.thenN ?_ (by with_reducible assumption) ?_) | (with_reducible refine Only.trans ?_ (by with_reducible assumption)) | (refine .inl ?_; first | rfl | (simp; done) | (simp [Ar.blk]; done)) | (refine .inr ?_; first | omega | (simp; done) | (simp; omega) | exact Only.size (by with_reducible assumption) | (refine Nat.le_trans (Only.size (by with_reducible assumption)) ?_; simp; done)))⟩
set_option maxRecDepth 100000 in
set_option maxHeartbeats 4000000 in
theorem r6_fits (h : R6M w r vv most room l) (g : Good most room l) (q : Bool) (p : Int) :
    Calls Try.prog 93 #[.pointer (some ⟨r, 0, none⟩), .int .u8 (sdN q), .int .i64 p] w fun e w' => e = .returned (.int .i64 (fitsE most room l q p)) ∧ Only (fun _ => False) w w' := by
  have HS := Lib.hid (r6_sided (sdN q) w)
  rw [sided_sdN] at HS
  by_cases hp1 : p < 1
  · have e : fitsE most room l q p = 1 := by unfold fitsE; rw [if_pos (by omega)]
    have t1 : decide (p < 1) = true := by simpa using hp1
    rw [e]
    clear h g e hp1
    go_enter Try.func93, Try.ntmps93
    go_wp2_with fail
    refine HS.out.mono ?_
    rintro e w1 ⟨rfl, rfl⟩
    go_wp2_with fail
    go_returns
    exact ⟨rfl, by repeat' (first | (with_reducible exact Only.refl _ _) | (with_reducible assumption) | (refine Only.of_none ?_; with_reducible assumption) | (with_reducible refine Only.drewN ?_ _) | (with_reducible refine Only.drew ?_) | (with_reducible refine Only.alloc ?_ _) | (with_reducible refine Only.setCell ?_ ?_ _) | (with_reducible refine Only.then0 ?_ (by with_reducible assumption)) | (with_reducible refine Only.thenN ?_ (by with_reducible assumption) ?_) | (with_reducible refine Only.trans ?_ (by with_reducible assumption)) | (refine .inl ?_; first | rfl | (simp; done) | (simp [Ar.blk]; done)) | (refine .inr ?_; first | omega | (simp; done) | (simp; omega) | exact Only.size (by with_reducible assumption) | (refine Nat.le_trans (Only.size (by with_reducible assumption)) ?_; simp; done)))⟩
  · have t1 : decide (p < 1) = false := by simpa using hp1
    by_cases hp2 : 1000000000 < p
    · have e : fitsE most room l q p = 1 := by unfold fitsE; rw [if_pos (by omega)]
      have t2 : decide (1000000000 < p) = true := by simpa using hp2
      rw [e]
      clear h g e hp1 hp2
      go_enter Try.func93, Try.ntmps93
      go_wp2_with fail
      refine HS.out.mono ?_
      rintro e w1 ⟨rfl, rfl⟩
      go_wp2_with fail
      go_returns
      exact ⟨rfl, by repeat' (first | (with_reducible exact Only.refl _ _) | (with_reducible assumption) | (refine Only.of_none ?_; with_reducible assumption) | (with_reducible refine Only.drewN ?_ _) | (with_reducible refine Only.drew ?_) | (with_reducible refine Only.alloc ?_ _) | (with_reducible refine Only.setCell ?_ ?_ _) | (with_reducible refine Only.then0 ?_ (by with_reducible assumption)) | (with_reducible refine Only.thenN ?_ (by with_reducible assumption) ?_) | (with_reducible refine Only.trans ?_ (by with_reducible assumption)) | (refine .inl ?_; first | rfl | (simp; done) | (simp [Ar.blk]; done)) | (refine .inr ?_; first | omega | (simp; done) | (simp; omega) | exact Only.size (by with_reducible assumption) | (refine Nat.le_trans (Only.size (by with_reducible assumption)) ?_; simp; done)))⟩
    · have t2 : decide (1000000000 < p) = false := by simpa using hp2
      have c0 := h.c0.cell
      have c1 := h.c1.cell
      have z0 := cell_lt c0
      have HL := Lib.hid fun n => r6_len (h.only ((Only.refl (fun _ => False) w).drewN n) fun _ _ => id) (by have := g.len; have := g.small.1; omega)
      have hD := fun W (o : Only (fun _ => False) w W) => r6_depth (h.only o fun _ _ => id) g.qs (fun q => by have := g.le q; omega) q 129
      have hdl := g.dep q
      have hlen := g.len
      have hms := g.small.2
      rw [show (depthL (l q)).take (129 : Int).toNat = depthL (l q) from List.take_of_length_le (by show _ ≤ 129; omega)] at hD
      have hE : fitsE most room l q p = if (l false).length + (l true).length = room then 60 else if p ∈ (depthL (l q)).map (·.p) then 0 else if (depthL (l q)).length = most then 61 else 0 := by
        unfold fitsE
        rw [if_neg (by omega), ← dep_prices, List.length_map]
      rw [hE]
      have KEEP := fun W (o : Only (fun _ => False) w W) => Lib.hid (show W.cell? ⟨r, 0, none⟩ = some (.int .i64 (room : Int)) from o.cell c0 id)
      have C1 := Lib.hid c1
      generalize depthL (l q) = D at *
      generalize sdN q = sd at *
      generalize (l false).length + (l true).length = k at *
      clear h hE hp1 hp2 g
      have HD := Lib.hid fun W (o : Only (fun _ => False) w W) => (hD W o)
      clear hD
      by_cases hk : k = room
      · rw [if_pos hk]
        have t3 : decide ((room : Int) ≤ (k : Int)) = true := by simp; omega
        have t3' : decide (room ≤ k) = true := by simp; omega
        clear hk
        go_enter Try.func93, Try.ntmps93
        go_wp2_with fail
        refine HS.out.mono ?_
        rintro e w1 ⟨rfl, rfl⟩
        go_wp2_with fail
        go_quiet ((go_at_call 97; exact Calls.quiet_of (HL.out _)))
        go_wp2_with fail
        go_returns
        exact ⟨rfl, by repeat' (first | (with_reducible exact Only.refl _ _) | (with_reducible assumption) | (refine Only.of_none ?_; with_reducible assumption) | (with_reducible refine Only.drewN ?_ _) | (with_reducible refine Only.drew ?_) | (with_reducible refine Only.alloc ?_ _) | (with_reducible refine Only.setCell ?_ ?_ _) | (with_reducible refine Only.then0 ?_ (by with_reducible assumption)) | (with_reducible refine Only.thenN ?_ (by with_reducible assumption) ?_) | (with_reducible refine Only.trans ?_ (by with_reducible assumption)) | (refine .inl ?_; first | rfl | (simp; done) | (simp [Ar.blk]; done)) | (refine .inr ?_; first | omega | (simp; done) | (simp; omega) | exact Only.size (by with_reducible assumption) | (refine Nat.le_trans (Only.size (by with_reducible assumption)) ?_; simp; done)))⟩
      · rw [if_neg hk]
        obtain ⟨E, hE⟩ : ∃ E : Int, E = if p ∈ D.map (·.p) then 0 else if D.length = most then 61 else 0 := ⟨_, rfl⟩
        rw [← hE]
        have HE := Lib.hid hE
        clear hE
        have t3 : decide ((room : Int) ≤ (k : Int)) = false := by simp; omega
        have t3' : decide (room ≤ k) = false := by simp; omega
        clear hk
        go_enter Try.func93, Try.ntmps93
        go_wp2_with fail
        refine HS.out.mono ?_
        rintro e w1 ⟨rfl, rfl⟩
        go_wp2_with fail
        go_quiet ((go_at_call 97; exact Calls.quiet_of (HL.out _)))
        go_wp2_with fail
        refine (HD.out _ (by repeat' (first | (with_reducible exact Only.refl _ _) | (with_reducible assumption) | (refine Only.of_none ?_; with_reducible assumption) | (with_reducible refine Only.drewN ?_ _) | (with_reducible refine Only.drew ?_) | (with_reducible refine Only.alloc ?_ _) | (with_reducible refine Only.setCell ?_ ?_ _) | (with_reducible refine Only.then0 ?_ (by with_reducible assumption)) | (with_reducible refine Only.thenN ?_ (by with_reducible assumption) ?_) | (with_reducible refine Only.trans ?_ (by with_reducible assumption)) | (refine .inl ?_; first | rfl | (simp; done) | (simp [Ar.blk]; done)) | (refine .inr ?_; first | omega | (simp; done) | (simp; omega) | exact Only.size (by with_reducible assumption) | (refine Nat.le_trans (Only.size (by with_reducible assumption)) ?_; simp; done))))).mono ?_
        rintro e w2 ⟨v, rfl, hv, o2⟩
        obtain ⟨va, cap, rfl, hvc⟩ := own_slice hv
        obtain ⟨m, hm⟩ : ∃ m, m = D.length := ⟨_, rfl⟩
        have HM := Lib.hid hm
        have c1 := (show Only (fun _ => False) w w2 by repeat' (first | (with_reducible exact Only.refl _ _) | (with_reducible assumption) | (refine Only.of_none ?_; with_reducible assumption) | (with_reducible refine Only.drewN ?_ _) | (with_reducible refine Only.drew ?_) | (with_reducible refine Only.alloc ?_ _) | (with_reducible refine Only.setCell ?_ ?_ _) | (with_reducible refine Only.then0 ?_ (by with_reducible assumption)) | (with_reducible refine Only.thenN ?_ (by with_reducible assumption) ?_) | (with_reducible refine Only.trans ?_ (by with_reducible assumption)) | (refine .inl ?_; first | rfl | (simp; done) | (simp [Ar.blk]; done)) | (refine .inr ?_; first | omega | (simp; done) | (simp; omega) | exact Only.size (by with_reducible assumption) | (refine Nat.le_trans (Only.size (by with_reducible assumption)) ?_; simp; done)))).cell C1.out id
        have z1 := cell_lt c1
        have HV := Lib.hid hv
        have HO2 := Lib.hid (show Only (fun _ => False) w w2 by repeat' (first | (with_reducible exact Only.refl _ _) | (with_reducible assumption) | (refine Only.of_none ?_; with_reducible assumption) | (with_reducible refine Only.drewN ?_ _) | (with_reducible refine Only.drew ?_) | (with_reducible refine Only.alloc ?_ _) | (with_reducible refine Only.setCell ?_ ?_ _) | (with_reducible refine Only.then0 ?_ (by with_reducible assumption)) | (with_reducible refine Only.thenN ?_ (by with_reducible assumption) ?_) | (with_reducible refine Only.trans ?_ (by with_reducible assumption)) | (refine .inl ?_; first | rfl | (simp; done) | (simp [Ar.blk]; done)) | (refine .inr ?_; first | omega | (simp; done) | (simp; omega) | exact Only.size (by with_reducible assumption) | (refine Nat.le_trans (Only.size (by with_reducible assumption)) ?_; simp; done))))
        rw [← hm] at hdl HE
        rw [← hm]
        clear hv hm o2
        go_wp2_with fail
        go_loop [9] (fun s9 => ∃ i : Nat, i ≤ m ∧ s9 = .int .i64 i ∧ ∀ x ∈ D.take i, x.p ≠ p) (fun s => m - (intOf s).toNat)
        case atStart => exact ⟨0, Nat.zero_le _, rfl, by simp⟩
        case round =>
          obtain ⟨i, hi, rfl, hno⟩ := hrel
          by_cases hlt : i < m
          · have tj : decide (i < m) = true := by simpa using hlt
            obtain ⟨x, hx⟩ : ∃ x, D[i]? = some x := ⟨_, List.getElem?_eq_getElem (by rw [← HM.out]; exact hlt)⟩
            obtain ⟨gb, cap', e, _, _, hgl, hc⟩ := ownC HV.out (by rw [← HM.out]; omega)
            obtain ⟨rfl, rfl⟩ : va = some ⟨gb, 0, none⟩ ∧ cap = cap' := by injection e with e1 e2 e3; exact ⟨e1, e3⟩
            have b0 := (hc _ _ (lvlC_at hx).1).cell
            have zb := cell_lt b0
            have ij : (0 : Int) ≤ (i : Int) ∧ (i : Int) < (m : Int) := by omega
            have w1 : IntKind.i64.wrap ((i : Int) + 1) = (i : Int) + 1 := by rw [IntKind.wrap_i64]; omega
            by_cases he : x.p = p
            · have hin : p ∈ D.map (·.p) := List.mem_map.2 ⟨x, List.mem_of_getElem? hx, he⟩
              have hEE : E = 0 := by rw [HE.out, if_pos hin]
              have HEE := Lib.hid hEE
              clear hEE
              have t4 : (x.p == p) = true := by simpa using he
              obtain ⟨xp, xq, xn⟩ := x
              simp only at b0 t4
              clear hin hno hx he hc e
              go_wp2_with fail
              go_returns
              exact ⟨by rw [HEE.out]; rfl, HO2.out⟩
            · have hno2 : ∀ y ∈ D.take (i + 1), y.p ≠ p := fun y hy => by
                rw [List.take_add_one, hx] at hy
                simp only [Option.toList_some, List.mem_append, List.mem_singleton] at hy
                rcases hy with hy | rfl
                · exact hno y hy
                · exact he
              have HNO := Lib.hid hno2
              have t4 : (x.p == p) = false := by simpa using he
              obtain ⟨xp, xq, xn⟩ := x
              simp only at b0 t4
              clear hno hno2 hx he hc e
              go_wp2_with fail
              go_round
              case rel => exact ⟨i + 1, by omega, by go_num, HNO.out⟩
              case measure => simp [intOf]; omega
          · have tj : decide (i < m) = false := by simpa using hlt
            have hnot : ¬ p ∈ D.map (·.p) := fun h => by
              obtain ⟨x, hx, e⟩ := List.mem_map.1 h
              rw [List.take_of_length_le (by rw [← HM.out]; omega)] at hno
              exact hno x hx e
            have hE1 := HE.out
            rw [if_neg hnot] at hE1
            clear hnot hno
            by_cases hmm : m = most
            · rw [if_pos hmm] at hE1
              have HEE := Lib.hid hE1
              clear hE1
              have t5 : decide ((most : Int) ≤ (m : Int)) = true := by simp; omega
              have t5' : decide (most ≤ m) = true := by simp; omega
              clear hmm
              go_wp2_with fail
              go_returns
              exact ⟨by rw [HEE.out]; rfl, HO2.out⟩
            · rw [if_neg hmm] at hE1
              have HEE := Lib.hid hE1
              clear hE1
              have t5 : decide ((most : Int) ≤ (m : Int)) = false := by simp; omega
              have t5' : decide (most ≤ m) = false := by simp; omega
              clear hmm
              go_wp2_with fail
              go_returns
              exact ⟨by rw [HEE.out]; rfl, HO2.out⟩
end
end Go.Proofs.Ytilngakgofjmpaa
