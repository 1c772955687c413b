/- What comes out is its owner's: the owner's book. Conditions: a book of lists of levels alone. -/
import Derived.Test.YtkglplngnjgnhaaOGLW
namespace Go.Proofs.Ytkglplngnjgnhaa.OwL
open Go.RowKit Go.Proofs.Ytkglplngnjgnhaa
set_option linter.unusedVariables false
set_option linter.unusedSimpArgs false

/-- A list is put into the book. -/
def FdPost (w : World) (bb i : Nat) (v : Value) (xs : List Value) (x : Value) (e : Ending) (w' : World) : Prop :=
  ∃ v', e = .returned (.tuple #[]) ∧ w'.ownsRow 0 90 1 v' (i + 1) (xs ++ [x]) ∧ Cell w' bb 4 v' ∧ (∀ o u, o ≠ 4 → w.cell? ⟨bb, o, none⟩ = some u → w'.cell? ⟨bb, o, none⟩ = some u) ∧
    (v'.ownBlock = v.ownBlock ∨ v'.ownBlock = some (w.heap.size + 1)) ∧ Only (fun g => g = bb ∨ v.ownBlock = some g) w w'
set_option maxRecDepth 100000 in
theorem b_put (w : World) (bb i : Nat) (v : Value) (xs : List Value) (hown : w.ownsRow 0 90 1 v i xs) (hc : Cell w bb 4 v) (hsep : v.ownBlock ≠ some bb) (hi : i ≤ 2000000000000) (xa : Option Addr) (xn xc : Nat) :
    Calls Try.prog 70 #[.pointer (some ⟨bb, 0, none⟩), .slice xa xn xc] w (FdPost w bb i v xs (.slice xa xn xc)) := by
  obtain ⟨i4, hi4, hz4, hs4, hb4⟩ := info_ofO infoA_EltsL
  obtain ⟨a, cap, hvv, _⟩ := ownS hown
  have c7 := hc.cell
  have z7 := cell_lt c7
  have HC := Lib.hid hc
  have HOWN := Lib.hid hown
  have HSEP := Lib.hid hsep
  have HOP := Lib.hid (show ∀ u ∈ [Value.slice xa xn xc], u.oneCell' = true from fun u hu => by
    rcases List.mem_cons.1 hu with rfl | hu
    · rfl
    · cases hu)
  have HV := Lib.hid hvv
  have HSEP2 := Lib.hid (show ¬ (some bb = (Value.slice a i cap).ownBlock) from fun e => hsep (by rw [hvv]; exact e.symm))
  rw [hvv] at c7
  clear hc hown hsep hvv
  go_enter Try.func70, Try.ntmps70
  go_wp2_with (at_builtin; with_reducible refine wpList_append_own_at _ rfl (.tmp 8) (.tmp 10) 73 rfl 0 90 i4 (.slice none 0 0) 1 24 Try.underlying73 hi4 hz4 hs4 hb4 rfl (by decide) (.slice a i cap) i xs rfl ((HV.out ▸ HOWN.out).alloc _) ⟨_, 0, none⟩ 1 1 [.slice xa xn xc] rfl rfl (cells_newO _ _ _) HOP.out (by unfold maxLen; omega) (by omega) (Nat.zero_le _) ?_; intro l2 w6 hown2 hgr2 hnil2 hat2; clear hnil2; obtain ⟨a2, cap2, rfl, hcap2⟩ := ownS hown2; have H4 := Lib.hid hown2; have H5 := Lib.hid hgr2; have H6 := Lib.hid hat2; have hb7 := Lib.hid ((HC.out.alloc _).only (Only_of_grown hgr2) HSEP2.out); have c77 := hb7.out.cell; have f77 := hb7.out.free; have z77 := cell_lt c77; clear hown2 hgr2 hat2)
  go_returns
  have hv := HV.out
  have o1 := Only_of_grown H5.out
  have hl2 : (Value.slice a2 (i + 1) cap2).ownBlock ≠ some bb := fun e => by
    rcases H6.out with h | h
    · rw [h] at e; exact HSEP.out (by rw [hv]; exact e)
    · rw [h] at e; injection e with e; simp at e; omega
  refine ⟨.slice a2 (i + 1) cap2, rfl, own_keep H4.out (fun g hg => Below.heap_setCell _ _ _ _ (fun e => hl2 (by rw [hg, e]))), hb7.out.set _, fun o u ho hu => ?_, ?_, ?_⟩
  · have h1 : (w.alloc (.cells #[.slice xa xn xc] 90)).cell? ⟨bb, o, none⟩ = some u := ((Only.refl (fun _ => False) w).alloc _).cell hu id
    have h2 := o1.cell h1 (fun e => HSEP.out (by rw [hv]; exact e.symm))
    rw [← h2]
    exact World.cell?_setCell_other _ _ _ _ (off_ne (Ne.symm ho))
  · rw [hv]
    simpa using H6.out
  · refine (((Only.refl _ w).alloc _).trans' o1 fun g _ e => .inr (by rw [hv]; exact e.symm)).setCell (p := ⟨bb, 4, none⟩) (.inl (.inl rfl)) _

set_option maxHeartbeats 2000000 in
set_option maxRecDepth 100000 in
theorem b_own (w : World) (bb gl m mc : Nat) (hv : Nat → Value) (n : Nat → Nat) (hI : OwnIn w gl m hv n) (hmc : m ≤ mc) (h0 : O1 w w gl m hv n 0 0) (hc : w.cell? ⟨bb, 4, none⟩ = some (.slice (some ⟨gl, 0, none⟩) m mc)) (hb : ¬ HB m hv bb)
    (hn : ∀ o, o < 11 → o ≠ 4 → w.cell? ⟨bb, o, none⟩ = some (.slice none 0 0)) :
    Calls Try.prog 33 #[.pointer (some ⟨bb, 0, none⟩)] w fun e w' => e = .returned (.bool true) ∧ Only (HB m hv) w w' := by
  have HW := Lib.hid (s_own w gl m mc hv n hI hmc h0)
  have c0 := hn 0 (by decide) (by decide)
  have c1 := hn 1 (by decide) (by decide)
  have c2 := hn 2 (by decide) (by decide)
  have c3 := hn 3 (by decide) (by decide)
  have HN := Lib.hid hn
  have HB' := Lib.hid hb
  have z7 := cell_lt hc
  clear hI h0 hn hb
  go_enter Try.func33, Try.ntmps33
  go_wp2_with fail
  refine (own_ints _).mono ?_
  rintro e wz ⟨rfl, rfl⟩
  go_wp2_with fail
  refine (own_longs _).mono ?_
  rintro e wz ⟨rfl, rfl⟩
  go_wp2_with fail
  refine (own_numbers _).mono ?_
  rintro e wz ⟨rfl, rfl⟩
  go_wp2_with fail
  refine (own_orders _).mono ?_
  rintro e wz ⟨rfl, rfl⟩
  go_wp2_with fail
  refine HW.out.mono ?_
  rintro e w1 ⟨rfl, ow⟩
  have c5 := ow.cell (HN.out 5 (by decide) (by decide)) HB'.out
  have c6 := ow.cell (HN.out 6 (by decide) (by decide)) HB'.out
  have c7 := ow.cell (HN.out 7 (by decide) (by decide)) HB'.out
  have c8 := ow.cell (HN.out 8 (by decide) (by decide)) HB'.out
  have c9 := ow.cell (HN.out 9 (by decide) (by decide)) HB'.out
  have c10 := ow.cell (HN.out 10 (by decide) (by decide)) HB'.out
  have z8 := cell_lt c5
  have OW := Lib.hid ow
  clear ow HW
  go_wp2_with fail
  refine (own_hits _).mono ?_
  rintro e wz ⟨rfl, rfl⟩
  go_wp2_with fail
  refine (own_events _).mono ?_
  rintro e wz ⟨rfl, rfl⟩
  go_wp2_with fail
  refine (own_feeds _).mono ?_
  rintro e wz ⟨rfl, rfl⟩
  go_wp2_with fail
  refine (own_actions _).mono ?_
  rintro e wz ⟨rfl, rfl⟩
  go_wp2_with fail
  refine (own_tolds _).mono ?_
  rintro e wz ⟨rfl, rfl⟩
  go_wp2_with fail
  refine (own_texts _).mono ?_
  rintro e wz ⟨rfl, rfl⟩
  go_wp2_with fail
  go_returns
  exact ⟨rfl, OW.out⟩
end Go.Proofs.Ytkglplngnjgnhaa.OwL
