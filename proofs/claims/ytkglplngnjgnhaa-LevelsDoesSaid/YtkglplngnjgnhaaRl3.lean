/- The document's side: Add upon a nil row, Drop, New. Conditions: a side as its New lays it, the prices from better to worse. -/
import Derived.Test.YtkglplngnjgnhaaRl2
namespace Go.Proofs.Ytkglplngnjgnhaa
set_option linter.unusedVariables false
set_option linter.unusedSimpArgs false
open Go.RowKit

section
variable {w : World} {rb most : Nat} {sd sg : Int} {hv : Value} {L : List Lvl}

set_option maxHeartbeats 4000000 in
set_option maxRecDepth 100000 in
theorem r_add_nil (h : R5At w rb sd most sg (.slice none 0 0) []) (ok : LvOk most sg []) (p : Int) (h1 : 1 ≤ p) (h2 : p ≤ 1000000000) (hl : 0 < most) :
    Calls Try.prog 46 #[.pointer (some ⟨rb, 0, none⟩), .int .i64 p] w (R5Post rb sd most sg (.slice none 0 0) [(p, 0)] w (.tuple #[.int .i64 0, .int .i64 0])) := by
  obtain ⟨i3, hi3, hz3, hs3, hb3⟩ := info_parts Try.infoPrice
  have HF := Lib.hid (r_find_no h ok p rfl)
  have HB := fun W (o : Only (fun _ => False) w W) => Lib.hid (show Calls Try.prog 50 #[.pointer (some ⟨rb, 0, none⟩), .int .i64 p] W (fun e w' => e = .returned (.int .i64 0) ∧ Only (fun _ => False) W w') from r_better (h.only o (fun _ _ => id)) ok p)
  have hsm := ok.small
  have c2 := h.c2.cell
  have c1 := h.c1.cell
  have z1 := cell_lt c2
  have HH := Lib.hid h
  have C2W := Lib.hid c2
  have C2F := Lib.hid h.c2.free
  have t1 : decide (p < 1) = false := by simp; omega
  have t2 : decide (1000000000 < p) = false := by simp; omega
  have t4 : decide (most ≤ 0) = false := by simp; omega
  have t4' : decide ((most : Int) ≤ 0) = false := by simp; omega
  clear h ok
  go_enter Try.func46, Try.ntmps46
  go_wp2_with fail
  refine HF.out.mono ?_
  rintro e w1 ⟨rfl, rfl⟩
  clear HF
  go_wp2_with fail
  go_quiet (fail)
  go_wp2_with fail
  go_loop [7, 8] (fun s7 s8 => ∃ (q : Bool), s7 = .int .i64 0 ∧ s8 = .bool q) (fun s7 s8 => (match s8 with | .bool true => 1 | _ => 0))
  case atStart => exact ⟨true, rfl, rfl⟩
  case round =>
    obtain ⟨q, rfl, rfl⟩ := hrel
    cases q with
    | true =>
      go_wp2_with fail
      go_loop [7, 8, 9] (fun s7 s8 s9 => s7 = .int .i64 0 ∧ s8 = .bool false ∧ s9 = .int .i64 0) (fun _ _ s9 => 0)
      case atStart => exact ⟨rfl, rfl, rfl⟩
      case round =>
        obtain ⟨rfl, rfl, rfl⟩ := hrel
        go_wp2_with fail
    | false =>
      go_wp2_with fail
      refine (HB _ (by repeat' (first | (with_reducible exact Only.refl _ _) | (with_reducible assumption) | (refine Only.of_none ?_; with_reducible assumption) | (with_reducible refine Only.drewN ?_ _) | (with_reducible refine Only.drew ?_) | (with_reducible refine Only.alloc ?_ _) | (with_reducible refine Only.setCell ?_ ?_ _) | (with_reducible refine Only.then0 ?_ (by with_reducible assumption)) | (with_reducible refine Only.thenN ?_ (by with_reducible assumption) ?_) | (with_reducible refine Only.trans ?_ (by with_reducible assumption)) | (refine .inl ?_; first | rfl | (simp; done) | (simp [Ar.blk]; done)) | (refine .inr ?_; first | omega | (simp; done) | (simp; omega) | exact Only.size (by with_reducible assumption) | (refine Nat.le_trans (Only.size (by with_reducible assumption)) ?_; simp; done))))).out.mono ?_
      rintro e w4 ⟨rfl, o4⟩
      have o04 : Only (fun _ => False) w w4 := by repeat' (first | (with_reducible exact Only.refl _ _) | (with_reducible assumption) | (refine Only.of_none ?_; with_reducible assumption) | (with_reducible refine Only.drewN ?_ _) | (with_reducible refine Only.drew ?_) | (with_reducible refine Only.alloc ?_ _) | (with_reducible refine Only.setCell ?_ ?_ _) | (with_reducible refine Only.then0 ?_ (by with_reducible assumption)) | (with_reducible refine Only.thenN ?_ (by with_reducible assumption) ?_) | (with_reducible refine Only.trans ?_ (by with_reducible assumption)) | (refine .inl ?_; first | rfl | (simp; done) | (simp [Ar.blk]; done)) | (refine .inr ?_; first | omega | (simp; done) | (simp; omega) | exact Only.size (by with_reducible assumption) | (refine Nat.le_trans (Only.size (by with_reducible assumption)) ?_; simp; done)))
      have c2 := o04.cell c2 id
      have z1 := cell_lt c2
      have O04 := Lib.hid o04
      have HOP := Lib.hid (show ∀ u ∈ [Value.int .i64 p, Value.int .i64 0], u.oneCell' = true from fun u hu => by
        rcases List.mem_cons.1 hu with rfl | hu
        · rfl
        · rcases List.mem_cons.1 hu with rfl | hu
          · rfl
          · cases hu)
      clear HB
      go_wp2_with (first
        | (at_builtin; with_reducible refine wpList_append_own_none rfl (.tmp 61) (.tmp 67) 113 rfl 0 161 i3 2 Try.underlying113 hi3 (.slice none 0 0) 0 [] rfl (World.ownsRow_nil _ _ _ _) rfl ?_)
        | (at_builtin; with_reducible refine wpList_append_own_at _ rfl (.tmp 69) (.tmp 73) 113 rfl 0 161 i3 (.agg #[.int .i64 0, .int .i64 0]) 2 16 Try.underlying113 hi3 hz3 hs3 hb3 rfl (by decide) (.slice none 0 0) 0 [] rfl (World.ownsRow_nil _ _ _ _) ⟨w4.heap.size, 0, none⟩ 1 1 [.int .i64 p, .int .i64 0] rfl rfl (cell_pair_new _ _ _ _) HOP.out (by unfold maxLen; omega) (by omega) (Nat.zero_le _) ?_; intro v2 w6 hown2 hgrow2 hnil2 hat2; clear hnil2; simp only [Nat.zero_add, List.nil_append] at hown2; obtain ⟨a2, cap2, rfl, hcap2⟩ := own_slice hown2; have HOWN2 := Lib.hid hown2; have o06 : Only (fun _ => False) w w6 := (O04.out.alloc _).new (Only.of_grown hgrow2 (fun q e => by simp [Value.ownBlock] at e)); have hb2 : ∀ q, (Value.slice a2 1 cap2).ownBlock = some q → w.heap.size ≤ q := (fun q e => by rcases hat2 with h | h; (rw [h] at e; simp [Value.ownBlock] at e); (rw [h] at e; injection e with e; have := (O04.out.alloc (.cells #[.int .i64 p, .int .i64 0] 161)).size; omega)); have HB2 := Lib.hid hb2; have O06 := Lib.hid o06; have c26 := o06.cell C2W.out id; have z26 := cell_lt c26; clear hown2 hgrow2 hat2 o06 hb2)
        | (at_builtin; with_reducible refine wpList_append_own_none rfl (.tmp 76) (.tmp 82) 113 rfl 0 161 i3 2 Try.underlying113 hi3 (.slice a2 1 cap2) 1 [.int .i64 p, .int .i64 0] rfl HOWN2.out rfl ?_; have k7 := HH.out.c2.only O06.out id; have f27 := k7.free))
      go_returns
      have hR := R5At.row HH.out O06.out (v' := .slice a2 1 cap2) (L' := [(p, 0)]) HOWN2.out (by
        rcases hq : (Value.slice a2 1 cap2).ownBlock with _ | q
        · exact .inl rfl
        · exact .inr ⟨q, rfl, HB2.out q hq⟩) (.tuple #[.int .i64 0, .int .i64 0])
      exact hR

theorem r_drop_no (h : R5At w rb sd most sg hv L) (ok : LvOk most sg L) (p : Int) (hp : has p L = false) :
    Calls Try.prog 47 #[.pointer (some ⟨rb, 0, none⟩), .int .i64 p] w fun e w' => e = .returned (.int .i64 51) ∧ w = w' := by
  have HF := Lib.hid (r_find_no h ok p hp)
  clear h ok hp
  go_enter Try.func47, Try.ntmps47
  go_wp2_with fail
  refine HF.out.mono ?_
  rintro e w1 ⟨rfl, rfl⟩
  go_wp2_with fail
  go_returns
  exact ⟨rfl, rfl⟩

set_option maxHeartbeats 4000000 in
set_option maxRecDepth 100000 in
theorem r_drop (h : R5At w rb sd most sg hv L) (ok : LvOk most sg L) (p : Int) (k : Nat) (hk : k = pos sg p L) (r : Nat) (hx : L[k]? = some (p, r)) :
    Calls Try.prog 47 #[.pointer (some ⟨rb, 0, none⟩), .int .i64 p] w (R5Post rb sd most sg hv (cutAt k L) w (.int .i64 0)) := by
  obtain ⟨i3, hi3, hz3, hs3, hb3⟩ := info_parts Try.infoPrice
  have HF := Lib.hid (r_find h ok p r (List.mem_of_getElem? hx))
  have HB := fun W (o : Only (fun _ => False) w W) => Lib.hid (r_better (h.only o (fun _ _ => id)) ok p)
  simp only [← hk] at HB
  have hsm := ok.small
  have hln := ok.len
  obtain ⟨g, cap, hvv, hcap, hg, _, _⟩ := h.at_ hx
  have hkl := (List.getElem?_eq_some_iff.1 hx).1
  have c2 := h.c2.cell
  rw [hvv] at c2
  have z1 := cell_lt c2
  have hown := h.own
  have hcw : ∀ W (o : Only (fun _ => False) w W), ∀ j u, (lvV L)[j]? = some u → W.cell? ⟨g, j, none⟩ = some u := fun W o j u hu => by
    rcases hown.2 with ⟨e, _⟩ | ⟨g', cap', cur, e, _, hgg, _, _, _, hct⟩
    · rw [hvv] at e; cases e
    · rw [hvv] at e
      injection e with e1 e2 e3
      injection e1 with e1
      injection e1 with e1
      subst e1
      refine o.cell ?_ id
      rw [← hct, List.getElem?_take] at hu
      split at hu
      · rw [cell_of_row w g j cur _ _ hgg]; simpa using hu
      · cases hu
  obtain ⟨n, hn⟩ : ∃ n, n = L.length := ⟨_, rfl⟩
  have hxl : (lvV L).length = n * 2 := by rw [lvV_length, hn]
  have hcells := cut_cells k L
  have hpn : (cutAt k L).length = k + (n - (k + 1)) := by rw [cut_len hkl, ← hn]; omega
  rw [← hn] at c2 hkl hcap hln
  have ht1 : ((lvV L).take (k * 2)).length = k * 2 := by rw [List.length_take]; omega
  have ht2 : ((lvV L).drop ((k + 1) * 2)).length = (n - (k + 1)) * 2 := by rw [List.length_drop]; omega
  have hone := lvV_one L
  have hn1 : ∀ W (o : Only (fun _ => False) w W), ∀ j u, ((lvV L).take (k * 2))[j]? = some u → W.cell? ((⟨g, 0, none⟩ : Addr).add j) = some u := fun W o j u hu => by
    rw [show (⟨g, 0, none⟩ : Addr).add j = ⟨g, j, none⟩ by unfold Addr.add; split <;> simp_all]
    rw [List.getElem?_take] at hu
    split at hu
    · exact hcw W o j u hu
    · cases hu
  have hsrc : ∃ A, (if cap = k + 1 then some (⟨g, 0, none⟩ : Addr) else some ⟨g, (k + 1) * 2, none⟩) = some A ∧ ∀ W (o : Only (fun _ => False) w W), ∀ j u, ((lvV L).drop ((k + 1) * 2))[j]? = some u → W.cell? (A.add j) = some u := by
    by_cases e : cap = k + 1
    · refine ⟨_, if_pos e, fun W o j u hu => ?_⟩
      have := (List.getElem?_eq_some_iff.1 hu).1
      rw [ht2] at this; omega
    · refine ⟨_, if_neg e, fun W o j u hu => ?_⟩
      rw [show (⟨g, (k + 1) * 2, none⟩ : Addr).add j = ⟨g, (k + 1) * 2 + j, none⟩ by unfold Addr.add; split <;> simp_all]
      rw [List.getElem?_drop] at hu
      exact hcw W o _ u hu
  obtain ⟨A, hA, hsrc⟩ := hsrc
  obtain ⟨xs1, hx1⟩ : ∃ xs1, xs1 = (lvV L).take (k * 2) := ⟨_, rfl⟩
  obtain ⟨xs2, hx2⟩ : ∃ xs2, xs2 = (lvV L).drop ((k + 1) * 2) := ⟨_, rfl⟩
  rw [← hx1, ← hx2] at hcells
  rw [← hx1] at ht1 hn1
  rw [← hx2] at ht2 hsrc
  have ho1 : ∀ u ∈ xs1, u.oneCell' = true := fun u hu => by rw [hx1] at hu; exact hone u (List.mem_of_mem_take hu)
  have ho2 : ∀ u ∈ xs2, u.oneCell' = true := fun u hu => by rw [hx2] at hu; exact hone u (List.mem_of_mem_drop hu)
  have HH := Lib.hid h
  have C2W := Lib.hid c2
  have HVV := Lib.hid hvv
  have C2F := Lib.hid h.c2.free
  have HC := Lib.hid hcells
  have HN1 := Lib.hid hn1
  have HSRC := Lib.hid hsrc
  have HO1 := Lib.hid ho1
  have HO2 := Lib.hid ho2
  have HT1 := Lib.hid ht1
  have HT2 := Lib.hid ht2
  have HPN := Lib.hid hpn
  have t1 : decide ((r : Int) < 0) = false := by simp
  have w1 : IntKind.i64.wrap ((k : Int) + 1) = (k : Int) + 1 := by rw [IntKind.wrap_i64]; omega
  have hkn : (k : Int) ≤ (cap : Int) := by omega
  have hkn2 : (k : Int) + 1 ≤ (n : Int) := by omega
  clear h ok hk hx hn1 hsrc ho1 ho2 ht1 ht2 hx1 hx2 hone hcells hown hcw hxl hpn hn hvv
  go_enter Try.func47, Try.ntmps47
  go_wp2_with fail
  refine HF.out.mono ?_
  rintro e w1 ⟨rfl, rfl⟩
  clear HF
  go_wp2_with fail
  refine (HB _ (by repeat' (first | (with_reducible exact Only.refl _ _) | (with_reducible assumption) | (refine Only.of_none ?_; with_reducible assumption) | (with_reducible refine Only.drewN ?_ _) | (with_reducible refine Only.drew ?_) | (with_reducible refine Only.alloc ?_ _) | (with_reducible refine Only.setCell ?_ ?_ _) | (with_reducible refine Only.then0 ?_ (by with_reducible assumption)) | (with_reducible refine Only.thenN ?_ (by with_reducible assumption) ?_) | (with_reducible refine Only.trans ?_ (by with_reducible assumption)) | (refine .inl ?_; first | rfl | (simp; done) | (simp [Ar.blk]; done)) | (refine .inr ?_; first | omega | (simp; done) | (simp; omega) | exact Only.size (by with_reducible assumption) | (refine Nat.le_trans (Only.size (by with_reducible assumption)) ?_; simp; done))))).out.mono ?_
  rintro e w4 ⟨rfl, o4⟩
  have o04 : Only (fun _ => False) w w4 := by repeat' (first | (with_reducible exact Only.refl _ _) | (with_reducible assumption) | (refine Only.of_none ?_; with_reducible assumption) | (with_reducible refine Only.drewN ?_ _) | (with_reducible refine Only.drew ?_) | (with_reducible refine Only.alloc ?_ _) | (with_reducible refine Only.setCell ?_ ?_ _) | (with_reducible refine Only.then0 ?_ (by with_reducible assumption)) | (with_reducible refine Only.thenN ?_ (by with_reducible assumption) ?_) | (with_reducible refine Only.trans ?_ (by with_reducible assumption)) | (refine .inl ?_; first | rfl | (simp; done) | (simp [Ar.blk]; done)) | (refine .inr ?_; first | omega | (simp; done) | (simp; omega) | exact Only.size (by with_reducible assumption) | (refine Nat.le_trans (Only.size (by with_reducible assumption)) ?_; simp; done)))
  have c2 := o04.cell c2 id
  have z1 := cell_lt c2
  have N1 := Lib.hid (HN1.out w4 o04)
  have O04 := Lib.hid o04
  clear HB
  go_wp2_with (first
        | (at_builtin; with_reducible refine wpList_append_own_at _ rfl (.tmp 16) (.tmp 22) 113 rfl 0 161 i3 (.agg #[.int .i64 0, .int .i64 0]) 2 16 Try.underlying113 hi3 hz3 hs3 hb3 rfl (by decide) (.slice none 0 0) 0 [] rfl (World.ownsRow_nil _ _ _ _) ⟨g, 0, none⟩ k cap xs1 rfl HT1.out N1.out HO1.out (by unfold maxLen; omega) (by omega) (Nat.zero_le _) ?_; intro v1 w5 hown1 hgrow1 hnil1 hat1; clear hnil1; simp only [Nat.zero_add, List.nil_append] at hown1; obtain ⟨a1, cap1, rfl, hcap1⟩ := own_slice hown1; have HOWN1 := Lib.hid hown1; have o05 : Only (fun _ => False) w w5 := O04.out.trans (Only.of_grown hgrow1 (fun q e => by simp [Value.ownBlock] at e)); have hb1 : ∀ q, (Value.slice a1 k cap1).ownBlock = some q → w.heap.size ≤ q := (fun q e => by rcases hat1 with h | h; (rw [h] at e; simp [Value.ownBlock] at e); (rw [h] at e; injection e with e; have := O04.out.size; omega)); have HB1 := Lib.hid hb1; have O05 := Lib.hid o05; have c25 := o05.cell C2W.out id; have z25 := cell_lt c25; have N3 := Lib.hid (HSRC.out w5 o05); clear hown1 hgrow1 hat1 o05 hb1)
        | (at_builtin; with_reducible refine wpList_append_own_at _ rfl (.tmp 25) (.tmp 32) 113 rfl 0 161 i3 (.agg #[.int .i64 0, .int .i64 0]) 2 16 Try.underlying113 hi3 hz3 hs3 hb3 rfl (by decide) (.slice a1 k cap1) k xs1 rfl HOWN1.out A (n - (k + 1)) (cap - (k + 1)) xs2 rfl HT2.out N3.out HO2.out (by unfold maxLen; omega) (by omega) (Nat.zero_le _) ?_; intro v3 w7 hown3 hgrow3 hnil3 hat3; clear hnil3; obtain ⟨a3, cap3, rfl, hcap3⟩ := own_slice hown3; have HOWN3 := Lib.hid hown3; have o07 : Only (fun _ => False) w w7 := O05.out.new (Only.of_grown hgrow3 (fun q e => HB1.out q e)); have hb3' : (Value.slice a3 (k + (n - (k + 1))) cap3).ownBlock = none ∨ ∃ q, (Value.slice a3 (k + (n - (k + 1))) cap3).ownBlock = some q ∧ w.heap.size ≤ q := (by rcases hq : (Value.slice a3 (k + (n - (k + 1))) cap3).ownBlock with _ | q; exact .inl rfl; refine .inr ⟨q, rfl, ?_⟩; rcases hat3 with h | h; exact HB1.out q (h.symm.trans hq); (rw [h] at hq; injection hq with hq; have := O05.out.size; omega)); have HB3 := Lib.hid hb3'; have O07 := Lib.hid o07; have k7 := HH.out.c2.only o07 id; have c27 := k7.cell; have f27 := k7.free; rw [HVV.out] at c27; have z27 := cell_lt c27; clear hown3 hgrow3 hat3 o07 hb3' k7))
  go_returns
  have hR := R5At.row HH.out O07.out (v' := .slice a3 (k + (n - (k + 1))) cap3) (L' := cutAt k L) (by
    rw [HPN.out, HC.out]
    exact HOWN3.out) HB3.out (.int .i64 0)
  exact hR

/-- What the document's New lays. -/
def R5New (w : World) (sd : Int) (most : Nat) (sg : Int) (e : Ending) (w' : World) : Prop :=
  ∃ rb, e = .returned (.tuple #[.pointer (some ⟨rb, 0, none⟩), .int .i64 0]) ∧ R5At w' rb sd most sg (.slice none 0 0) [] ∧ Only (fun _ => False) w w' ∧ w.heap.size ≤ rb

theorem r_new (w : World) (sd sg : Int) (most : Nat) (hm : most ≤ 128) (hsd : (sd = 1 ∧ sg = -1) ∨ (sd = 2 ∧ sg = 1)) :
    Calls Try.prog 18 #[.int .u8 sd, .int .i64 most] w (R5New w sd most sg) := by
  have t1 : decide ((most : Int) < 0) = false := by simp
  have t2 : decide ((128 : Int) < (most : Int)) = false := by simp; omega
  have t2' : decide (128 < most) = false := by simp; omega
  rcases hsd with ⟨rfl, rfl⟩ | ⟨rfl, rfl⟩
  · go_enter Try.func18, Try.ntmps18
    go_wp2_with fail
    go_returns
    refine ⟨w.heap.size, rfl, ⟨?_, ?_, ?_, World.ownsRow_nil _ _ _ _, (fun g e => by cases e), .inl ⟨rfl, rfl⟩⟩, by repeat' (first | (with_reducible exact Only.refl _ _) | (with_reducible assumption) | (refine Only.of_none ?_; with_reducible assumption) | (with_reducible refine Only.drewN ?_ _) | (with_reducible refine Only.drew ?_) | (with_reducible refine Only.alloc ?_ _) | (with_reducible refine Only.setCell ?_ ?_ _) | (with_reducible refine Only.then0 ?_ (by with_reducible assumption)) | (with_reducible refine Only.thenN ?_ (by with_reducible assumption) ?_) | (with_reducible refine Only.trans ?_ (by with_reducible assumption)) | (refine .inl ?_; first | rfl | (simp; done) | (simp [Ar.blk]; done)) | (refine .inr ?_; first | omega | (simp; done) | (simp; omega) | exact Only.size (by with_reducible assumption) | (refine Nat.le_trans (Only.size (by with_reducible assumption)) ?_; simp; done))), Nat.le_refl _⟩ <;> exact ⟨by simp, by simp⟩
  · go_enter Try.func18, Try.ntmps18
    go_wp2_with fail
    go_returns
    refine ⟨w.heap.size, rfl, ⟨?_, ?_, ?_, World.ownsRow_nil _ _ _ _, (fun g e => by cases e), .inr ⟨rfl, rfl⟩⟩, by repeat' (first | (with_reducible exact Only.refl _ _) | (with_reducible assumption) | (refine Only.of_none ?_; with_reducible assumption) | (with_reducible refine Only.drewN ?_ _) | (with_reducible refine Only.drew ?_) | (with_reducible refine Only.alloc ?_ _) | (with_reducible refine Only.setCell ?_ ?_ _) | (with_reducible refine Only.then0 ?_ (by with_reducible assumption)) | (with_reducible refine Only.thenN ?_ (by with_reducible assumption) ?_) | (with_reducible refine Only.trans ?_ (by with_reducible assumption)) | (refine .inl ?_; first | rfl | (simp; done) | (simp [Ar.blk]; done)) | (refine .inr ?_; first | omega | (simp; done) | (simp; omega) | exact Only.size (by with_reducible assumption) | (refine Nat.le_trans (Only.size (by with_reducible assumption)) ?_; simp; done))), Nat.le_refl _⟩ <;> exact ⟨by simp, by simp⟩
theorem r_new_no (w : World) (sd most : Int) (h : (sd ≠ 1 ∧ sd ≠ 2) ∨ most < 0 ∨ 128 < most) :
    Calls Try.prog 18 #[.int .u8 sd, .int .i64 most] w fun e w' => e = .returned (.tuple #[.pointer none, .int .i64 1]) ∧ w = w' := by
  by_cases h0 : sd ≠ 1 ∧ sd ≠ 2
  · have t1 : (sd == 1) = false := by simpa using h0.1
    have t2 : (sd == 2) = false := by simpa using h0.2
    clear h
    go_enter Try.func18, Try.ntmps18
    go_wp2_with fail
    go_returns
    exact ⟨rfl, rfl⟩
  · have hsd : sd = 1 ∨ sd = 2 := by omega
    by_cases h1 : most < 0
    · have t1 : decide (most < 0) = true := by simpa using h1
      clear h h0
      rcases hsd with rfl | rfl
      · go_enter Try.func18, Try.ntmps18
        go_wp2_with fail
        go_returns
        exact ⟨rfl, rfl⟩
      · go_enter Try.func18, Try.ntmps18
        go_wp2_with fail
        go_returns
        exact ⟨rfl, rfl⟩
    · have t1 : decide (most < 0) = false := by simpa using h1
      have t2 : decide (128 < most) = true := by simp; omega
      clear h h0
      rcases hsd with rfl | rfl
      · go_enter Try.func18, Try.ntmps18
        go_wp2_with fail
        go_returns
        exact ⟨rfl, rfl⟩
      · go_enter Try.func18, Try.ntmps18
        go_wp2_with fail
        go_returns
        exact ⟨rfl, rfl⟩
end
end Go.Proofs.Ytkglplngnjgnhaa
