/- BookBack: the chapter's example and the walk. No condition. -/
import Derived.Test.YtkglplngnjgnhaaBkE
namespace Go.Proofs.Ytkglplngnjgnhaa
set_option linter.unusedVariables false
set_option linter.unusedSimpArgs false
open Go.RowKit Go.Shelf
open Od (OrdR Lay FreeN Blk4)

/-- A book of the call's own; the blocks X are others'. -/
structure BkC (w0 : World) (X : Nat → Prop) (w : World) (b most room : Nat) (l : Bool → List OrdR) (T : Nat → Prop) : Prop where
  bk : Bk w b T most room l
  sep : ∀ i, T i → w0.heap.size ≤ i ∧ ¬ X i
  only : Only (fun _ => False) w0 w
  lt : ∀ i, X i → i < w.heap.size
theorem BkC.only' {w0 w w' : World} {X : Nat → Prop} {b most room : Nat} {l : Bool → List OrdR} {T : Nat → Prop} (h : BkC w0 X w b most room l T) (o : Only (fun _ => False) w w') : BkC w0 X w' b most room l T :=
  ⟨h.bk.only o (fun _ _ => id), h.sep, h.only.trans o, fun i hi => Nat.lt_of_lt_of_le (h.lt i hi) o.size⟩
theorem BkC.more {w0 w w' : World} {X Y : Nat → Prop} {b most room : Nat} {l : Bool → List OrdR} {T : Nat → Prop} (h : BkC w0 X w b most room l T) (o : Only (fun _ => False) w w') (hY : ∀ i, Y i → w.heap.size ≤ i ∧ i < w'.heap.size) : BkC w0 (fun i => X i ∨ Y i) w' b most room l T :=
  ⟨h.bk.only o (fun _ _ => id), fun i hi => ⟨(h.sep i hi).1, fun hx => hx.elim (h.sep i hi).2 (fun hy => by have := h.bk.lt i hi; have := (hY i hy).1; omega)⟩, h.only.trans o, fun i hi => hi.elim (fun hx => Nat.lt_of_lt_of_le (h.lt i hx) o.size) (fun hy => (hY i hy).2)⟩
/-- What a call that turns the book leaves. -/
def CPost (w0 : World) (X : Nat → Prop) (w : World) (b most room : Nat) (l : Bool → List OrdR) (v : Value) (e : Ending) (w' : World) : Prop := ∃ T, e = .returned v ∧ BkC w0 X w' b most room l T ∧ KeepB X w w' ∧ w.heap.size ≤ w'.heap.size
theorem BkC.post {w0 w : World} {X : Nat → Prop} {b most room : Nat} {l l' : Bool → List OrdR} {T : Nat → Prop} {v : Value} (h : BkC w0 X w b most room l T) {e : Ending} {w' : World} (hp : BkPost w b T most room l' v e w') : CPost w0 X w b most room l' v e w' := by
  obtain ⟨T', he, hb, ho, hg⟩ := hp
  refine ⟨T', he, ⟨hb, fun i hi => ?_, h.only.trans' ho (fun i h1 h2 => by have := (h.sep i h2).1; omega), fun i hi => Nat.lt_of_lt_of_le (h.lt i hi) ho.size⟩, fun i hi => ho.block i (h.lt i hi) (fun ht => (h.sep i ht).2 hi), ho.size⟩
  rcases hg i hi with h1 | h1
  · exact h.sep i h1
  · exact ⟨Nat.le_trans h.only.size h1, fun hx => by have := h.lt i hx; omega⟩
theorem BkC.start {w0 w w' : World} {b most room : Nat} {v : Value} {e : Ending} (o : Only (fun _ => False) w0 w) (h : BkNew w most room e w') : ∃ b T, e = .returned (.tuple #[.pointer (some ⟨b, 0, none⟩), .int .i64 0]) ∧ BkC w0 (fun _ => False) w' b most room (fun _ => []) T := by
  obtain ⟨b, T, he, hb, ho, hT⟩ := h
  exact ⟨b, T, he, hb, fun i hi => ⟨Nat.le_trans o.size (hT i hi), id⟩, o.trans ho, fun _ h => h.elim⟩

theorem ownsRow_keepB {w w' : World} {K : Nat → Prop} {base : Nat} {e : TypeId} {size : Nat} {v : Value} {n : Nat} {xs : List Value} (h : w.ownsRow base e size v n xs) (k : KeepB K w w') (hK : ∀ i, v.ownBlock = some i → K i) : w'.ownsRow base e size v n xs := by
  refine ⟨h.1, ?_⟩
  rcases h.2 with hn | ⟨g, cap, cur, rfl, hb, hgg, rest⟩
  · exact .inl hn
  · exact .inr ⟨g, cap, cur, rfl, hb, (k g (hK g rfl)).trans hgg, rest⟩
theorem OrdAt.of_slice {w : World} {base : Nat} {e : TypeId} {va : Option Addr} {cap : Nat} {l : List OrdR} (h : w.ownsRow base e 5 (.slice va l.length cap) l.length (ordC l)) : OrdAt w va l := by
  obtain ⟨va', cap', hv, _, ho⟩ := OrdAt.of_own h
  injection hv with e1 e2 e3
  rw [e1]; exact ho

/-! ### The chapter's example -/
def ex1 : OrdR := ⟨1, 1, 2, 10, 5⟩
def ex2 : OrdR := ⟨2, 2, 2, 11, 5⟩
def ex3 : OrdR := ⟨3, 1, 2, 10, 7⟩
def exS (l : List OrdR) : Bool → List OrdR := fun q => if q then l else []
theorem ex_i1 : insE 2 3 (fun _ => []) ex1 = 0 := by decide
theorem ex_s1 : insS 2 3 (fun _ => []) ex1 = exS [ex1] := by unfold insS; rw [if_pos ex_i1]; funext q; cases q <;> rfl
theorem ex_i2 : insE 2 3 (exS [ex1]) ex2 = 0 := by decide
theorem ex_s2 : insS 2 3 (exS [ex1]) ex2 = exS [ex1, ex2] := by unfold insS; rw [if_pos ex_i2]; funext q; cases q <;> rfl
theorem ex_i3 : insE 2 3 (exS [ex1, ex2]) ex3 = 0 := by decide
theorem ex_s3 : insS 2 3 (exS [ex1, ex2]) ex3 = exS [ex1, ex3, ex2] := by unfold insS; rw [if_pos ex_i3]; funext q; cases q <;> rfl
theorem ex_d : (depthL (exS [ex1, ex3, ex2] true)).take 1 = [⟨10, 12, 2⟩] := by rfl
theorem ex_f : fitsE 2 3 (exS [ex1, ex3, ex2]) false 9 = 60 := by decide
theorem ex_r : remS (exS [ex1, ex3, ex2]) 2 = exS [ex1, ex3] := by funext q; cases q <;> rfl
theorem ex_v : remV (exS [ex1, ex3, ex2]) 2 = .tuple #[ordV ex2, .int .i64 0] := by rfl
theorem ex_b : bestP (exS [ex1, ex3] true) = 10 := rfl

set_option maxRecDepth 100000 in
set_option maxHeartbeats 4000000 in
theorem bworks_walk (w : World) : Calls Try.prog 22 #[] w fun e w' => e = .returned (.bool true) ∧ Only (fun _ => False) w w' := by
  have H0 := fun W => Lib.hid (k_new W 3 2 (by decide) (by decide))
  go_enter Try.func22, Try.ntmps22
  go_wp2_with fail
  refine (H0 _).out.mono ?_
  intro e w1 hp
  obtain ⟨b, T0, rfl, C0⟩ := BkC.start (b := 0) (v := .bool true) (Only.refl _ w) hp
  clear hp H0
  have K : RowKit.Hid (Calls Try.prog 24 #[.pointer (some ⟨b, 0, none⟩), .agg #[.int .i64 1, .int .i64 1, .int .u8 2, .int .i64 10, .int .i64 5]] _ (CPost w (fun _ => False) _ b 2 3 (exS [ex1]) (.int .i64 0))) := Lib.hid (by
    have := (bk_insert C0.bk ex1 (wf_small (by decide) (by decide))).mono fun e w' h => C0.post h
    rw [ex_i1, ex_s1] at this
    exact this)
  clear C0
  go_wp2_with fail
  refine K.out.mono ?_
  clear K
  intro e w2 hp
  obtain ⟨T1, rfl, C1, _, _⟩ := hp
  have K : RowKit.Hid (Calls Try.prog 24 #[.pointer (some ⟨b, 0, none⟩), .agg #[.int .i64 2, .int .i64 2, .int .u8 2, .int .i64 11, .int .i64 5]] _ (CPost w (fun _ => False) _ b 2 3 (exS [ex1, ex2]) (.int .i64 0))) := Lib.hid (by
    have := (bk_insert C1.bk ex2 (wf_small (by decide) (by decide))).mono fun e w' h => C1.post h
    rw [ex_i2, ex_s2] at this
    exact this)
  clear C1
  go_wp2_with fail
  refine K.out.mono ?_
  clear K
  intro e w3 hp
  obtain ⟨T2, rfl, C2, _, _⟩ := hp
  have K : RowKit.Hid (Calls Try.prog 24 #[.pointer (some ⟨b, 0, none⟩), .agg #[.int .i64 3, .int .i64 1, .int .u8 2, .int .i64 10, .int .i64 7]] _ (CPost w (fun _ => False) _ b 2 3 (exS [ex1, ex3, ex2]) (.int .i64 0))) := Lib.hid (by
    have := (bk_insert C2.bk ex3 (wf_small (by decide) (by decide))).mono fun e w' h => C2.post h
    rw [ex_i3, ex_s3] at this
    exact this)
  clear C2
  go_wp2_with fail
  refine K.out.mono ?_
  clear K
  intro e w4 hp
  obtain ⟨T3, rfl, C3, _, _⟩ := hp
  have K : RowKit.Hid (Calls Try.prog 35 #[.pointer (some ⟨b, 0, none⟩), .int .u8 2, .int .i64 1] w4 (LvPost w4 [⟨10, 12, 2⟩])) := Lib.hid (by
    have := bk_depth C3.bk true 1 (by decide) (by decide)
    rw [ex_d] at this
    exact this)
  go_wp2_with fail
  refine K.out.mono ?_
  clear K
  intro e w5 hp
  obtain ⟨v5, rfl, hv5, o5⟩ := hp
  have C5 := C3.only' o5
  obtain ⟨g5, c5, rfl, hc5, hg5, hgl5, hcell5⟩ := own_cell hv5 (by decide)
  have q0 := hcell5 0 _ rfl
  have q1 := hcell5 1 _ rfl
  have q2 := hcell5 2 _ rfl
  have HQ := Lib.hid (⟨q0, q1, q2⟩ : _ ∧ _ ∧ _)
  have hg5' : w4.heap.size ≤ g5 := hg5
  have hgT : ¬ T3 g5 := fun h => by have := C3.bk.lt _ h; omega
  have hc5' : (1 : Nat) ≤ c5 := hc5
  have K : RowKit.Hid (Calls Try.prog 53 #[.pointer (some ⟨b, 0, none⟩), .int .u8 1, .int .i64 9] w5 fun e w' => e = .returned (.int .i64 60) ∧ Only (fun _ => False) w5 w') := Lib.hid (by
    have := bk_fits C5.bk false 9
    rw [ex_f] at this
    exact this)
  clear C3 hv5 hcell5 q0 q1 q2 hg5 hc5
  go_wp2_with fail
  refine K.out.mono ?_
  clear K
  rintro e w6 ⟨rfl, o6⟩
  have C6 := C5.only' o6
  have K : RowKit.Hid (Calls Try.prog 28 #[.pointer (some ⟨b, 0, none⟩), .int .i64 2] w6 (BkPost w6 b T3 2 3 (exS [ex1, ex3]) (.tuple #[.agg #[.int .i64 2, .int .i64 2, .int .u8 2, .int .i64 11, .int .i64 5], .int .i64 0]))) := Lib.hid (by
    have := bk_remove C6.bk 2 (wf_small (by decide) (by decide))
    rw [ex_r, ex_v] at this
    exact this)
  have HC6 := Lib.hid C6
  have O6 := Lib.hid o6
  clear C5 C6 o6
  go_wp2_with fail
  refine K.out.mono ?_
  clear K
  intro e w7 hp
  have hC7 := HC6.out.post hp
  obtain ⟨T7, rfl, _, o7, _⟩ := hp
  obtain ⟨T8, _, C7, _, hz7⟩ := hC7
  have hq := HQ.out
  have q0 := (hq.1.only O6.out id).only o7 hgT
  have q1 := (hq.2.1.only O6.out id).only o7 hgT
  have q2 := (hq.2.2.only O6.out id).only o7 hgT
  have oB := (Only.refl (fun _ => False) w7).alloc (.cells #[.int .i64 2, .int .i64 2, .int .u8 2, .int .i64 11, .int .i64 5] 54)
  have C8 := C7.only' oB
  have HQ8 := Lib.hid (⟨q0.only oB id, q1.only oB id, q2.only oB id⟩ : _ ∧ _ ∧ _)
  have HF := Lib.hid (Five.new w7 (.int .i64 2) (.int .i64 2) (.int .u8 2) (.int .i64 11) (.int .i64 5) 54)
  have K : RowKit.Hid (Calls Try.prog 36 #[.pointer (some ⟨b, 0, none⟩), .int .u8 2] (w7.alloc (.cells #[.int .i64 2, .int .i64 2, .int .u8 2, .int .i64 11, .int .i64 5] 54)) fun e w' => e = .returned (.int .i64 10) ∧ Only (fun _ => False) (w7.alloc (.cells #[.int .i64 2, .int .i64 2, .int .u8 2, .int .i64 11, .int .i64 5] 54)) w') := Lib.hid (by
    have := bk_best C8.bk true
    rw [ex_b] at this
    exact this)
  have HC8 := Lib.hid C8
  clear o7 q0 q1 q2 hq HQ C7 C8 oB hz7 HC6 O6 hgT
  go_wp2_with fail
  refine K.out.mono ?_
  clear K
  rintro e w9 ⟨rfl, o9⟩
  have C9 := HC8.out.only' o9
  have hq := HQ8.out
  have q0 := (hq.1.only o9 id).cell
  have q1 := (hq.2.1.only o9 id).cell
  have q2 := (hq.2.2.only o9 id).cell
  have F9 := HF.out.only o9 id
  have d3 := F9.c3.cell
  have z1 := cell_lt q0
  have z2 := cell_lt d3
  have HO9 := Lib.hid C9.only
  clear C9 o9 hq HQ8 HC8 HF F9
  go_wp2_with fail
  go_returns
  exact ⟨rfl, HO9.out⟩
end Go.Proofs.Ytkglplngnjgnhaa
