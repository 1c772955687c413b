/- The document's arena: Clear, New. Conditions: an arena as its New lays it, the numbers of the rows distinct and within the room. -/
import Derived.Test.YtiiflgihjnlmcaaRef4
import Derived.StillTailTactics
import Derived.Test.YtiiflgihjnlmcaaSlots8
namespace Go.Proofs.Ytiiflgihjnlmcaa
set_option linter.unusedVariables false
set_option linter.unusedSimpArgs false
open Go.RowKit

section
variable {base : Nat} {w : World} {b gr gu nr room : Nat} {hv : Nat → Value} {R : Nat → List Nat} {V : Nat → Int}

/-- The marks behind k rounds. -/
def clrU (nr : Nat) (R : Nat → List Nat) (r k n : Nat) : Bool := usedB nr R n && !decide (n ∈ (R r).take k)

theorem ra_clear_no (h : RaAt base w b gr gu nr room hv R V) (r : Int) (hr : ¬ (0 ≤ r ∧ r < nr)) :
    Calls Try.prog 132 #[.pointer (some ⟨b, 0, none⟩), .int .i64 r] w fun e w' => e = .returned (.int .i64 0) ∧ w = w' := by
  have HI := Lib.hid (ra_len_no h r hr)
  clear h hr
  go_enter Try.func132, Try.ntmps132
  go_wp2_with fail
  refine HI.out.mono ?_
  rintro e w1 ⟨rfl, rfl⟩
  go_wp2_with fail
  go_loop [6] (fun s => s = .int .i64 0) (fun _ => 0)
  case atStart => rfl
  case round =>
    subst hrel
    go_wp2_with fail
    go_returns
    exact ⟨rfl, rfl⟩

set_option maxHeartbeats 4000000 in
set_option maxRecDepth 100000 in
theorem ra_clear (h : RaAt base w b gr gu nr room hv R V) (ok : RowsOk nr room R) (r : Nat) (hr : r < nr) :
    Calls Try.prog 132 #[.pointer (some ⟨b, 0, none⟩), .int .i64 r] w (RaStep base w b gr gu nr room (upd R r []) V (.int .i64 (R r).length)) := by
  have HI := Lib.hid (ra_len h r hr)
  have hln := ok.len r hr
  have hsm := h.small
  obtain ⟨len, hl⟩ : ∃ len, len = (R r).length := ⟨_, rfl⟩
  rw [← hl] at HI hln ⊢
  have hfin : ∀ k, k < room → clrU nr R r len k = usedB nr (upd R r []) k := fun k hk => by
    unfold clrU
    rw [hl, List.take_length, Bool.eq_iff_iff, Bool.and_eq_true, usedB_iff, usedB_iff]
    simp only [Bool.not_eq_true', decide_eq_false_iff_not]
    constructor
    · rintro ⟨⟨s, hs, hm⟩, hn⟩
      by_cases e : s = r
      · subst e; exact absurd hm hn
      · exact ⟨s, hs, by rw [upd_other e]; exact hm⟩
    · rintro ⟨s, hs, hm⟩
      by_cases e : s = r
      · subst e; rw [upd_same] at hm; simp at hm
      · rw [upd_other e] at hm
        exact ⟨⟨s, hs, hm⟩, fun hn => e (ok.other s r k hs hr hm hn)⟩
  have hstart : ∀ k, k < room → usedB nr R k = clrU nr R r 0 k := fun k _ => by simp [clrU]
  have HH := Lib.hid (RaU.relabel h hstart)
  have HFIN := Lib.hid hfin
  have HL := Lib.hid hl
  have hlt := fun n hn => ok.lt r hr n hn
  have HLT := Lib.hid hlt
  have i1 : (0 : Int) ≤ (r : Int) ∧ (r : Int) < (nr : Int) := by omega
  clear h ok hfin hstart hl hlt
  go_enter Try.func132, Try.ntmps132
  go_wp2_with fail
  refine HI.out.mono ?_
  rintro e w1 ⟨rfl, rfl⟩
  clear HI
  go_wp2_with fail
  go_loopw [6] (fun s wr => ∃ k : Nat, k ≤ len ∧ s = .int .i64 k ∧ RaU base wr b gr gu nr room hv R V (clrU nr R r k) ∧ Only (RaB base b gr gu) w wr) (fun s _ => len - (intOf s).toNat)
  case atStart => exact ⟨0, by omega, rfl, HH.out, Only.refl _ _⟩
  case round =>
    obtain ⟨k, hk, rfl, hU, ho⟩ := hrel
    have c0 := hU.c0.cell
    have c2 := hU.c2.cell
    have hd := (hU.hd r hr).cell
    have hdf := (hU.hd r hr).free
    have own := hU.own r hr
    obtain ⟨a, cap, e, hcap⟩ := own_slice own
    rw [e, ← HL.out] at hd
    have z1 := cell_lt c0
    have z2 := cell_lt hd
    have HU := Lib.hid hU
    have HO := Lib.hid ho
    have HE := Lib.hid e
    by_cases hlt2 : k < len
    · have tk : decide (k < len) = true := by simpa using hlt2
      have ik : (0 : Int) ≤ (k : Int) ∧ (k : Int) < (len : Int) := by omega
      obtain ⟨x, hx⟩ : ∃ x, (R r)[k]? = some x := ⟨_, List.getElem?_eq_getElem (by rw [← HL.out]; exact hlt2)⟩
      obtain ⟨g, cap', e', _, hg1, hg2, v1, _⟩ := RaAt.atU hU hr hx
      rw [e, ← HL.out] at e'
      obtain ⟨rfl, rfl⟩ : a = some ⟨g, 0, none⟩ ∧ cap = cap' := by injection e' with e1 e2 e3; exact ⟨e1, e3⟩
      have hxr := HLT.out x (List.mem_of_getElem? hx)
      have ix : (0 : Int) ≤ (x : Int) ∧ (x : Int) < (room : Int) := by omega
      have v1 := v1.cell
      have u := (hU.us x hxr).cell
      have uf := (hU.us x hxr).free
      have z3 := cell_lt u
      have w1 : IntKind.i64.wrap ((k : Int) + 1) = (k : Int) + 1 := by rw [IntKind.wrap_i64]; omega
      have hnext : ∀ n, n < room → upd (clrU nr R r k) x false n = clrU nr R r (k + 1) n := fun n hn => by
        unfold clrU
        rw [List.take_add_one, hx]
        by_cases e : n = x
        · subst e; rw [upd_same]; simp
        · rw [upd_other e]; simp [e]
      have HNX := Lib.hid hnext
      clear hU ho e e' hx own hnext
      go_wp2_with fail
      go_still_tail 16, (by kernel_rfl)
      go_wp2_with fail
      go_roundw
      case rel => exact ⟨k + 1, by omega, by go_num, ((HU.out.mark x false).relabel HNX.out).only (S := fun _ => False) (by repeat' (first | (with_reducible exact Only.refl _ _) | (with_reducible assumption) | (refine Only.of_none ?_; with_reducible assumption) | (with_reducible refine Only.drewN ?_ _) | (with_reducible refine Only.drew ?_) | (with_reducible refine Only.alloc ?_ _) | (with_reducible refine Only.setCell ?_ ?_ _) | (with_reducible refine Only.then0 ?_ (by with_reducible assumption)) | (with_reducible refine Only.thenN ?_ (by with_reducible assumption) ?_) | (with_reducible refine Only.trans ?_ (by with_reducible assumption)) | (refine .inl ?_; first | rfl | (simp; done) | (simp [Ar.blk]; done)) | (refine .inr ?_; first | omega | (simp; done) | (simp; omega) | exact Only.size (by with_reducible assumption) | (refine Nat.le_trans (Only.size (by with_reducible assumption)) ?_; simp; done)))) (fun _ _ => id), (HO.out.setCell (p := ⟨gu, x, none⟩) (.inl (.inr (.inr (.inl rfl)))) _).drew⟩
      case measure => simp [intOf]; omega
    · have tk : decide (k < len) = false := by simpa using hlt2
      obtain rfl : k = len := by omega
      clear own hU ho e
      by_cases h0 : 0 < k
      · have t0 : decide (0 < k) = true := by simpa using h0
        have t0' : decide ((0 : Int) < (k : Int)) = true := by simp; omega
        go_wp2_with fail
        go_returns
        have hB := HU.out.row hr (w' := wr) (v' := .slice none 0 0) (l' := []) (V' := V) (Only.refl _ _) (World.ownsRow_nil _ _ _ _) (.inl rfl) (fun _ _ _ _ _ => rfl)
        exact ⟨_, rfl, hB.1.relabel HFIN.out, HO.out.trans hB.2⟩
      · have t0 : decide (0 < k) = false := by simpa using h0
        have t0' : decide ((0 : Int) < (k : Int)) = false := by simp; omega
        go_wp2_with fail
        go_returns
        have e : upd R r [] = R := by
          funext j
          by_cases e : j = r
          · subst e; rw [upd_same]; exact (List.eq_nil_of_length_eq_zero (by rw [← HL.out]; omega)).symm
          · rw [upd_other e]
        exact ⟨hv, rfl, by have := HU.out.relabel HFIN.out; rw [e] at this ⊢; exact this, HO.out⟩
end

/-! ### New -/
theorem ra_new_no (w : World) (rows room : Int) (h : rows < 1 ∨ rows > 65536 ∨ room < 0 ∨ room > 65536) :
    Calls Try.prog 70 #[.int .i64 rows, .int .i64 room] w fun e w' => e = .returned (.tuple #[.pointer none, .int .i64 1]) ∧ w = w' := by
  by_cases h0 : rows < 1
  · have t0 : decide (rows < 1) = true := by simpa using h0
    clear h
    go_enter Try.func70, Try.ntmps70
    go_wp2
    go_returns
    exact ⟨rfl, rfl⟩
  have t0 : decide (rows < 1) = false := by simpa using h0
  by_cases h1 : 65536 < rows
  · have t1 : decide (65536 < rows) = true := by simpa using h1
    clear h
    go_enter Try.func70, Try.ntmps70
    go_wp2
    go_returns
    exact ⟨rfl, rfl⟩
  have t1 : decide (65536 < rows) = false := by simpa using h1
  by_cases h2 : room < 0
  · have t2 : decide (room < 0) = true := by simpa using h2
    clear h
    go_enter Try.func70, Try.ntmps70
    go_wp2
    go_returns
    exact ⟨rfl, rfl⟩
  have t2 : decide (room < 0) = false := by simpa using h2
  have h3 : 65536 < room := by omega
  have t3 : decide (65536 < room) = true := by simpa using h3
  clear h
  go_enter Try.func70, Try.ntmps70
  go_wp2
  go_returns
  exact ⟨rfl, rfl⟩

/-- What lies there behind the document's New. -/
def RaNew (w : World) (nr room : Nat) (e : Ending) (w' : World) : Prop :=
  ∃ b gr gu, e = .returned (.tuple #[.pointer (some ⟨b, 0, none⟩), .int .i64 0]) ∧ RaAt w'.heap.size w' b gr gu nr room (fun _ => .slice none 0 0) (fun _ => []) (fun _ => 0) ∧ Only (fun _ => False) w w' ∧ w.heap.size ≤ b ∧ w.heap.size ≤ gr ∧ w.heap.size ≤ gu

theorem RaU.rebase {base base' : Nat} {w : World} {b gr gu nr room : Nat} {V : Nat → Int} (h : RaAt base w b gr gu nr room (fun _ => .slice none 0 0) (fun _ => []) V) (h1 : base ≤ base') (h2 : base' ≤ w.heap.size) : RaAt base' w b gr gu nr room (fun _ => .slice none 0 0) (fun _ => []) V :=
  ⟨h.c0, h.c1, h.c2, h.us, h.hd, fun _ _ => World.ownsRow_nil _ _ _ _, h.dis, ⟨by have := h.lows; omega, by have := h.lows; omega, by have := h.lows; omega⟩, h.ne, h2, h.small⟩

theorem Try.infoBool2 : (Try.prog.info? 4).map (fun i => (i.zero, i.size, i.bytes)) = some (some (.bool false), 1, 1) := by kernel_rfl
theorem Try.infoThings : (Try.prog.info? 194).map (fun i => (i.zero, i.size, i.bytes)) = some (some (.slice none 0 0), 1, 24) := by kernel_rfl

theorem cells_made {w : World} {g k : Nat} {z : Value} {t : TypeId} (h : w.heap[g]? = some (.cells (madeCells #[z] k) t (0, 0))) : ∀ i, i < k → Cell w g i z := fun i hi => by
  rw [show madeCells #[z] k = (madeCells #[z] k).toList.toArray by simp, toList_madeCells_one] at h
  exact cell_of_blk h (by simp [hi])

structure MadeR (w : World) (b gr gu nr room : Nat) : Prop where
  hb : w.heap[b]? = some (.cells #[.slice (some ⟨gr, 0, none⟩) nr nr, .int .i64 room, .slice (some ⟨gu, 0, none⟩) room room] 188 (0, 0))
  hr : w.heap[gr]? = some (.cells (madeCells #[.slice none 0 0] nr) 194 (0, 0))
  hu : w.heap[gu]? = some (.cells (madeCells #[.bool false] room) 4 (0, 0))
  ne : b ≠ gr ∧ b ≠ gu ∧ gr ≠ gu

theorem MadeR.at_ {w : World} {b gr gu nr room : Nat} (h : MadeR w b gr gu nr room) (hs : nr ≤ 65536 ∧ room ≤ 65536) : RaAt w.heap.size w b gr gu nr room (fun _ => .slice none 0 0) (fun _ => []) (fun _ => 0) := by
  have lt : ∀ {g : Nat} {o : Obj}, w.heap[g]? = some o → g < w.heap.size := fun h => (Array.getElem?_eq_some_iff.1 h).1
  have cb := fun {i v} hh => cell_of_blk (cs := [.slice (some ⟨gr, 0, none⟩) nr nr, .int .i64 room, .slice (some ⟨gu, 0, none⟩) room room]) (i := i) (v := v) h.hb hh
  refine ⟨cb rfl, cb rfl, cb rfl, fun n hn => ?_, cells_made h.hr, fun _ _ => World.ownsRow_nil _ _ _ _, fun _ _ _ _ _ => .inl rfl, ⟨lt h.hb, lt h.hr, lt h.hu⟩, h.ne, Nat.le_refl _, hs⟩
  rw [usedB_false.2 (fun _ _ => by simp)]
  exact cells_made h.hu n hn

set_option maxHeartbeats 1000000 in
theorem ra_new (w : World) (nr room : Nat) (h1 : 1 ≤ nr) (h2 : nr ≤ 65536) (h3 : room ≤ 65536) :
    Calls Try.prog 70 #[.int .i64 nr, .int .i64 room] w (RaNew w nr room) := by
  obtain ⟨i1, hi1, hz1, hs1, hb1⟩ := info_parts Try.infoBool2
  obtain ⟨i2, hi2, hz2, hs2, hb2⟩ := info_parts Try.infoThings
  have m1 := fun W => run_makeN (P := Try.prog) 62 4 i1 _ Try.underlying62 hi1 hz1 hs1 room (by rw [hb1]; omega) (by omega) W
  have m2 := fun W => run_makeN (P := Try.prog) 186 194 i2 _ Try.underlying186 hi2 hz2 hs2 nr (by rw [hb2]; omega) (by omega) W
  change ∀ W : World, _ = Result.ok _ (W.alloc (.cells (madeCells #[.bool false] (room * 1)) _)) at m1
  change ∀ W : World, _ = Result.ok _ (W.alloc (.cells (madeCells #[.slice none 0 0] (nr * 1)) _)) at m2
  clear hi1 hz1 hs1 hb1 hi2 hz2 hs2 hb2
  have t0 : decide ((nr : Int) < 1) = false := by simp; omega
  have t1 : decide (65536 < nr) = false := by simp; omega
  have t1' : decide ((65536 : Int) < (nr : Int)) = false := by simp; omega
  have t2 : decide ((room : Int) < 0) = false := by simp
  have t3 : decide (65536 < room) = false := by simp; omega
  have t3' : decide ((65536 : Int) < (room : Int)) = false := by simp; omega
  go_enter Try.func70, Try.ntmps70
  go_wp2_with fail
  go_region
  all_goals
    go_wp2_with fail
    go_returns
    first
      | (refine ⟨w.heap.size + 1 + 1, w.heap.size, w.heap.size + 1, rfl, (MadeR.at_ ⟨?_, ?_, ?_, ?_⟩ ⟨h2, h3⟩), ?_, ?_, ?_, ?_⟩; (repeat (first | exact hp_new (by simp; done) | (with_reducible refine hp_drew ?_) | (with_reducible refine hp_drewN ?_ _) | (with_reducible refine hp_old ?_ _))); (repeat (first | exact hp_new (by simp; done) | (with_reducible refine hp_drew ?_) | (with_reducible refine hp_drewN ?_ _) | (with_reducible refine hp_old ?_ _))); (repeat (first | exact hp_new (by simp; done) | (with_reducible refine hp_drew ?_) | (with_reducible refine hp_drewN ?_ _) | (with_reducible refine hp_old ?_ _))); omega; (repeat' (first | (with_reducible exact Only.refl _ _) | (with_reducible assumption) | (refine Only.of_none ?_; with_reducible assumption) | (with_reducible refine Only.drewN ?_ _) | (with_reducible refine Only.drew ?_) | (with_reducible refine Only.alloc ?_ _) | (with_reducible refine Only.setCell ?_ ?_ _) | (with_reducible refine Only.then0 ?_ (by with_reducible assumption)) | (with_reducible refine Only.thenN ?_ (by with_reducible assumption) ?_) | (with_reducible refine Only.trans ?_ (by with_reducible assumption)) | (refine .inl ?_; first | rfl | (simp; done) | (simp [Ar.blk]; done)) | (refine .inr ?_; first | omega | (simp; done) | (simp; omega) | exact Only.size (by with_reducible assumption) | (refine Nat.le_trans (Only.size (by with_reducible assumption)) ?_; simp; done)))); all_goals (first | omega | (simp; done) | (simp; omega)); done)
      | (refine ⟨w.heap.size + 1 + 1, w.heap.size + 1, w.heap.size, rfl, (MadeR.at_ ⟨?_, ?_, ?_, ?_⟩ ⟨h2, h3⟩), ?_, ?_, ?_, ?_⟩; (repeat (first | exact hp_new (by simp; done) | (with_reducible refine hp_drew ?_) | (with_reducible refine hp_drewN ?_ _) | (with_reducible refine hp_old ?_ _))); (repeat (first | exact hp_new (by simp; done) | (with_reducible refine hp_drew ?_) | (with_reducible refine hp_drewN ?_ _) | (with_reducible refine hp_old ?_ _))); (repeat (first | exact hp_new (by simp; done) | (with_reducible refine hp_drew ?_) | (with_reducible refine hp_drewN ?_ _) | (with_reducible refine hp_old ?_ _))); omega; (repeat' (first | (with_reducible exact Only.refl _ _) | (with_reducible assumption) | (refine Only.of_none ?_; with_reducible assumption) | (with_reducible refine Only.drewN ?_ _) | (with_reducible refine Only.drew ?_) | (with_reducible refine Only.alloc ?_ _) | (with_reducible refine Only.setCell ?_ ?_ _) | (with_reducible refine Only.then0 ?_ (by with_reducible assumption)) | (with_reducible refine Only.thenN ?_ (by with_reducible assumption) ?_) | (with_reducible refine Only.trans ?_ (by with_reducible assumption)) | (refine .inl ?_; first | rfl | (simp; done) | (simp [Ar.blk]; done)) | (refine .inr ?_; first | omega | (simp; done) | (simp; omega) | exact Only.size (by with_reducible assumption) | (refine Nat.le_trans (Only.size (by with_reducible assumption)) ?_; simp; done)))); all_goals (first | omega | (simp; done) | (simp; omega)); done)
end Go.Proofs.Ytiiflgihjnlmcaa
