/- The document's arena: Push. Conditions: an arena as its New lays it, the numbers of the rows distinct and within the room. -/
import Derived.Test.YtiiflgihjnlmcaaRef2
import Derived.Maps.AppendAt
import Derived.Deep.AppendLies
import Derived.Deep.RegionLaw
namespace Go.Proofs.Ytiiflgihjnlmcaa
set_option linter.unusedVariables false
set_option linter.unusedSimpArgs false
open Go.RowKit

theorem Only.of_grown {w w' : World} {row : Option Nat} {S : Nat → Prop} (hg : w.grownBy w' row) (hr : ∀ r, row = some r → S r) : Only S w w' :=
  ⟨hg.os, hg.tape, hg.output, hg.size, fun i hi hs => hg.block i hi (fun e => hs (hr i e.symm))⟩

theorem Try.infoThing : (Try.prog.info? 221).map (fun i => (i.zero, i.size, i.bytes)) = some (some (.agg #[.int .i64 0, .int .i64 0]), 2, 16) := by kernel_rfl

theorem cell_pair_new (w : World) (x y : Value) (t : TypeId) : ∀ j u, [x, y][j]? = some u → (w.alloc (.cells #[x, y] t)).cell? ((⟨w.heap.size, 0, none⟩ : Addr).add j) = some u := by
  intro j u h
  rw [show (⟨w.heap.size, 0, none⟩ : Addr).add j = ⟨w.heap.size, j, none⟩ by unfold Addr.add; split <;> simp_all]
  exact (Cell.new (cs := #[x, y]) (by simpa using h)).cell

/-- What the document's Push and Take leave. -/
def RaStep (base : Nat) (w : World) (b gr gu nr room : Nat) (R : Nat → List Nat) (V : Nat → Int) (v : Value) (e : Ending) (w' : World) : Prop :=
  ∃ hv', e = .returned v ∧ RaAt base w' b gr gu nr room hv' R V ∧ Only (RaB base b gr gu) w w'

section
variable {base : Nat} {w : World} {b gr gu nr room : Nat} {hv : Nat → Value} {R : Nat → List Nat} {V : Nat → Int}

theorem ra_push_bad (h : RaAt base w b gr gu nr room hv R V) (r v : Int) (hr : ¬ (0 ≤ r ∧ r < nr)) :
    Calls Try.prog 121 #[.pointer (some ⟨b, 0, none⟩), .int .i64 r, .int .i64 v] w fun e w' => e = .returned (.tuple #[.int .i64 0, .int .i64 1]) ∧ w = w' := by
  have HI := Lib.hid (ra_is h r false (decide_eq_false hr))
  clear h hr
  go_enter Try.func121, Try.ntmps121
  go_wp2_with fail
  refine HI.out.mono ?_
  rintro e w1 ⟨rfl, rfl⟩
  go_wp2_with fail
  go_returns
  exact ⟨rfl, rfl⟩

set_option maxHeartbeats 1000000 in
theorem ra_push_full (h : RaAt base w b gr gu nr room hv R V) (r : Nat) (v : Int) (hr : r < nr) (hn : ∀ n, ¬ FreeN nr room R n) :
    Calls Try.prog 121 #[.pointer (some ⟨b, 0, none⟩), .int .i64 r, .int .i64 v] w fun e w' => e = .returned (.tuple #[.int .i64 0, .int .i64 40]) ∧ w = w' := by
  have HI := Lib.hid (ra_is h r true (by simp [hr]))
  have c1 := h.c1.cell
  have c2 := h.c2.cell
  have hlt := cell_lt c1
  have hsm := h.small
  have hu : ∀ n, n < room → Cell w gu n (.bool true) := fun n hn' => by
    have := h.us n hn'
    rwa [usedB_iff.2 (Classical.byContradiction fun hc => hn n ⟨hn', fun r hr hm => hc ⟨r, hr, hm⟩⟩)] at this
  have HU := Lib.hid hu
  clear h hn hu
  go_enter Try.func121, Try.ntmps121
  go_wp2_with fail
  refine HI.out.mono ?_
  rintro e w1 ⟨rfl, rfl⟩
  go_wp2_with fail
  go_loop [9] (fun s => ∃ j : Nat, j ≤ room ∧ s = .int .i64 j) (fun s => room - (intOf s).toNat)
  case atStart => exact ⟨0, by omega, rfl⟩
  case round =>
    obtain ⟨j, hj, rfl⟩ := hrel
    by_cases hlt2 : j < room
    · have tj : decide (j < room) = true := by simpa using hlt2
      have ij : (0 : Int) ≤ (j : Int) ∧ (j : Int) < (room : Int) := by omega
      have u := (HU.out j hlt2).cell
      have hgu := cell_lt u
      have w2 : IntKind.i64.wrap ((j : Int) + 1) = (j : Int) + 1 := by rw [IntKind.wrap_i64]; omega
      go_wp2_with fail
      go_round
      case rel => exact ⟨j + 1, by omega, by go_num⟩
      case measure => simp [intOf]; omega
    · have tj : decide (j < room) = false := by simpa using hlt2
      go_wp2_with fail
      go_returns
      exact ⟨rfl, rfl⟩

set_option maxHeartbeats 4000000 in
set_option maxRecDepth 100000 in
theorem ra_push (h : RaAt base w b gr gu nr room hv R V) (ok : RowsOk nr room R) (r n : Nat) (v : Int) (hr : r < nr) (hn : FreeN nr room R n) (hmin : ∀ m, FreeN nr room R m → n ≤ m) :
    Calls Try.prog 121 #[.pointer (some ⟨b, 0, none⟩), .int .i64 r, .int .i64 v] w (RaStep base w b gr gu nr room (upd R r (R r ++ [n])) (upd V n v) (.tuple #[.int .i64 n, .int .i64 0])) := by
  have HI := Lib.hid (ra_is h r true (by simp [hr]))
  obtain ⟨i3, hi3, hz3, hs3, hb3⟩ := info_parts Try.infoThing
  have c1 := h.c1.cell
  have c2 := h.c2.cell
  have hlt := cell_lt c1
  have hsm := h.small
  have hln := ok.len r hr
  have hn1 := hn.1
  have hu : ∀ j, j < n → Cell w gu j (.bool true) := fun j hj => by
    have := h.us j (by omega)
    rwa [usedB_iff.2 (Classical.byContradiction fun hc => by have := hmin j ⟨by omega, fun r hr hm => hc ⟨r, hr, hm⟩⟩; omega)] at this
  have hu2 := h.us n hn1
  rw [usedB_false.2 hn.2] at hu2
  have HU := Lib.hid hu
  have HH := Lib.hid h
  have hfin : ∀ k, k < room → upd (usedB nr R) n true k = usedB nr (upd R r (R r ++ [n])) k := fun k hk => by
    by_cases e : k = n
    · subst e
      rw [upd_same, usedB_iff.2 ⟨r, hr, by rw [upd_same]; simp⟩]
    · rw [upd_other e, Bool.eq_iff_iff, usedB_iff, usedB_iff]
      constructor
      · rintro ⟨s, hs, hm⟩
        refine ⟨s, hs, ?_⟩
        by_cases e2 : s = r
        · subst e2; rw [upd_same]; exact List.mem_append.2 (.inl hm)
        · rw [upd_other e2]; exact hm
      · rintro ⟨s, hs, hm⟩
        refine ⟨s, hs, ?_⟩
        by_cases e2 : s = r
        · subst e2; rw [upd_same] at hm
          rcases List.mem_append.1 hm with h1 | h1
          · exact h1
          · simp at h1; exact absurd h1 e
        · rw [upd_other e2] at hm; exact hm
  have HFIN := Lib.hid hfin
  have hne : ∀ i, i < nr → ∀ m ∈ R i, upd V n v m = V m := fun i hi m hm => upd_other (fun e => hn.2 i hi (e ▸ hm))
  have HNE := Lib.hid hne
  have hth : thV (upd V n v) (R r ++ [n]) = thV V (R r) ++ [.int .i64 n, .int .i64 v] := by
    rw [thV_append, thV_congr (hne r hr)]
    simp [thV, upd_same]
  have HTH := Lib.hid hth
  clear h ok hn hmin hu hfin hne hth
  go_enter Try.func121, Try.ntmps121
  go_wp2_with fail
  refine HI.out.mono ?_
  rintro e w1 ⟨rfl, rfl⟩
  clear HI
  go_wp2_with fail
  go_loop [9] (fun s => ∃ j : Nat, j ≤ n ∧ s = .int .i64 j) (fun s => n + 1 - (intOf s).toNat)
  case atStart => exact ⟨0, by omega, rfl⟩
  case round =>
    obtain ⟨j, hj, rfl⟩ := hrel
    have tj : decide (j < room) = true := by simp; omega
    have ij : (0 : Int) ≤ (j : Int) ∧ (j : Int) < (room : Int) := by omega
    by_cases hlt2 : j < n
    · have u := (HU.out j hlt2).cell
      have hgu := cell_lt u
      have w2 : IntKind.i64.wrap ((j : Int) + 1) = (j : Int) + 1 := by rw [IntKind.wrap_i64]; omega
      clear hu2
      go_wp2_with fail
      go_round
      case rel => exact ⟨j + 1, by omega, by go_num⟩
      case measure => simp [intOf]; omega
    · obtain rfl : j = n := by omega
      have u := hu2.cell
      have uf := hu2.free
      have hgu := cell_lt u
      have hM := HH.out.mark j true
      have HM := Lib.hid hM
      have k0 := hM.c0.cell
      have hd := (hM.hd r hr).cell
      have hdf := (hM.hd r hr).free
      have own := hM.own r hr
      have hlow := hM.low
      have z1 := cell_lt k0
      have z2 := cell_lt hd
      have i1 : (0 : Int) ≤ (r : Int) ∧ (r : Int) < (nr : Int) := by omega
      obtain ⟨vi, hvi⟩ : ∃ vi, hv r = vi := ⟨_, rfl⟩
      rw [hvi] at hd own
      have HVI := Lib.hid hvi
      have OWN := Lib.hid own
      obtain ⟨W1, hW1⟩ : ∃ W1, w.setCell ⟨gu, j, none⟩ (.bool true) = W1 := ⟨_, rfl⟩
      rw [hW1] at k0 hd hdf z1 z2 OWN HM hlow
      have O1 : Only (RaB base b gr gu) w W1 := by rw [← hW1]; exact (Only.refl _ w).setCell (.inl (.inr (.inr (.inl rfl)))) _
      have HW1 := Lib.hid hW1
      clear hM own hvi hlt2 hu2 hW1
      go_upto_region 9 with fail
      rw [HW1.out]
      have OW := fun W (o : Only (fun _ => False) W1 W) => Lib.hid (ownsRow_only OWN.out o (fun _ _ => id))
      have CC := fun W (o : Only (fun _ => False) W1 W) q w3 (hg : World.grownBy W w3 q) (hq : q = vi.ownBlock) => Lib.hid (show w3.cell? ⟨b, 0, none⟩ = some (.slice (some ⟨gr, 0, none⟩) nr nr) ∧ w3.cell? ⟨gr, r, none⟩ = some vi ∧ w3.frozen? ⟨gr, r, none⟩ = false from by
        have RR := HM.out.only o (fun _ _ => id)
        have hrow : ∀ g, q = some g → base ≤ g := fun g e => (OWN.out.lt g (by rw [← hq]; exact e)).1
        have o1 : Only (fun i => base ≤ i) W w3 := Only.of_grown hg hrow
        have hl := RR.lows
        exact ⟨(RR.c0.only o1 (by omega)).cell, by have := ((RR.hd r hr).only o1 (by omega)).cell; rw [HVI.out] at this; exact this, ((RR.hd r hr).only o1 (by omega)).free⟩)
      go_region_law (refine step_append_lies _ rfl (.tmp 48) (.tmp 52) 194 rfl base 221 i3 (.agg #[.int .i64 0, .int .i64 0]) 2 16 Try.underlying194 hi3 hz3 hs3 hb3 rfl (by decide) vi (R r).length (thV V (R r)) (by simp [Act.eval, Act.put]) (OW _ (by repeat' (first | (with_reducible exact Only.refl _ _) | (with_reducible assumption) | (refine Only.of_none ?_; with_reducible assumption) | (with_reducible refine Only.drewN ?_ _) | (with_reducible refine Only.drew ?_) | (with_reducible refine Only.alloc ?_ _) | (with_reducible refine Only.setCell ?_ ?_ _) | (with_reducible refine Only.then0 ?_ (by with_reducible assumption)) | (with_reducible refine Only.thenN ?_ (by with_reducible assumption) ?_) | (with_reducible refine Only.trans ?_ (by with_reducible assumption)) | (refine .inl ?_; first | rfl | (simp; done) | (simp [Ar.blk]; done)) | (refine .inr ?_; first | omega | (simp; done) | (simp; omega) | exact Only.size (by with_reducible assumption) | (refine Nat.le_trans (Only.size (by with_reducible assumption)) ?_; simp; done))))).out ⟨W1.heap.size, 0, none⟩ 1 1 [.int .i64 j, .int .i64 v] (by simp [Act.eval, Act.put]) rfl (cell_pair_new _ _ _ _) (by intro u hu; simp at hu; rcases hu with hu | hu <;> subst hu <;> rfl) (by decide) (by unfold maxLen; omega) (by omega) (by simp; omega) (W1.heap.size + 1) (by simp) ?_; intro g cap3 w3 hown hgrow hat3 hlt3; obtain ⟨d0, dhd, dhf⟩ := (CC _ (by repeat' (first | (with_reducible exact Only.refl _ _) | (with_reducible assumption) | (refine Only.of_none ?_; with_reducible assumption) | (with_reducible refine Only.drewN ?_ _) | (with_reducible refine Only.drew ?_) | (with_reducible refine Only.alloc ?_ _) | (with_reducible refine Only.setCell ?_ ?_ _) | (with_reducible refine Only.then0 ?_ (by with_reducible assumption)) | (with_reducible refine Only.thenN ?_ (by with_reducible assumption) ?_) | (with_reducible refine Only.trans ?_ (by with_reducible assumption)) | (refine .inl ?_; first | rfl | (simp; done) | (simp [Ar.blk]; done)) | (refine .inr ?_; first | omega | (simp; done) | (simp; omega) | exact Only.size (by with_reducible assumption) | (refine Nat.le_trans (Only.size (by with_reducible assumption)) ?_; simp; done)))) _ w3 hgrow rfl).out)
      all_goals
        go_wp2_with fail
        go_returns
        have hA := fun {W} (o : Only (fun _ => False) W1 W) hg hl hle => RaU.row (HM.out.only o (fun _ _ => id)) hr (w' := w3) (v' := .slice (some ⟨g, 0, none⟩) ((R r).length + 1) cap3) (l' := R r ++ [j]) (V' := upd V j v) (Only.of_grown hg (fun q e => by rw [HVI.out]; exact e)) hle hl (fun i hi _ => HNE.out i hi)
        have hB := hA (by repeat' (first | (with_reducible exact Only.refl _ _) | (with_reducible assumption) | (refine Only.of_none ?_; with_reducible assumption) | (with_reducible refine Only.drewN ?_ _) | (with_reducible refine Only.drew ?_) | (with_reducible refine Only.alloc ?_ _) | (with_reducible refine Only.setCell ?_ ?_ _) | (with_reducible refine Only.then0 ?_ (by with_reducible assumption)) | (with_reducible refine Only.thenN ?_ (by with_reducible assumption) ?_) | (with_reducible refine Only.trans ?_ (by with_reducible assumption)) | (refine .inl ?_; first | rfl | (simp; done) | (simp [Ar.blk]; done)) | (refine .inr ?_; first | omega | (simp; done) | (simp; omega) | exact Only.size (by with_reducible assumption) | (refine Nat.le_trans (Only.size (by with_reducible assumption)) ?_; simp; done)))) hgrow (by rw [HVI.out]; rcases hat3 with e | e; exact .inr (.inl e.symm); exact .inr (.inr ⟨g, rfl, by rw [e]; simp⟩)) (by rw [HTH.out, List.length_append]; exact hown)
        exact ⟨_, rfl, hB.1.relabel HFIN.out, O1.trans ((Only.of_none (S := RaB base b gr gu) (show Only (fun _ => False) W1 _ from by repeat' (first | (with_reducible exact Only.refl _ _) | (with_reducible assumption) | (refine Only.of_none ?_; with_reducible assumption) | (with_reducible refine Only.drewN ?_ _) | (with_reducible refine Only.drew ?_) | (with_reducible refine Only.alloc ?_ _) | (with_reducible refine Only.setCell ?_ ?_ _) | (with_reducible refine Only.then0 ?_ (by with_reducible assumption)) | (with_reducible refine Only.thenN ?_ (by with_reducible assumption) ?_) | (with_reducible refine Only.trans ?_ (by with_reducible assumption)) | (refine .inl ?_; first | rfl | (simp; done) | (simp [Ar.blk]; done)) | (refine .inr ?_; first | omega | (simp; done) | (simp; omega) | exact Only.size (by with_reducible assumption) | (refine Nat.le_trans (Only.size (by with_reducible assumption)) ?_; simp; done))))).trans hB.2)⟩
end
end Go.Proofs.Ytiiflgihjnlmcaa
