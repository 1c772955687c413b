/- SlotsDoes: goes: does All tell a row, whole, left early, and once more within itself. Conditions: an arena as New lays it, and a list of the row's numbers and things. -/
import Derived.Test.YtiiflgihjnlmcaaRef5
import Derived.Test.YtiiflgihjnlmcaaMarks
import Derived.Test.YtiiflgihjnlmcaaLinksL
import Derived.Laws.EntriesVeiled
namespace Go.Proofs.Ytiiflgihjnlmcaa
set_option linter.unusedVariables false
set_option linter.unusedSimpArgs false
open Go.RowKit Go.Shelf
attribute [local go_sem] Oper.semAt_some

/-- A list of numbers and things, as it is read. -/
def WantAt (w : World) (wa : Option Addr) (L : List Nat) (V : Nat → Int) : Prop :=
  ∀ (j x : Nat), L[j]? = some x → ∃ g, wa = some ⟨g, 0, none⟩ ∧ g < w.heap.size ∧ w.cell? ⟨g, j * 2, none⟩ = some (.int .i64 x) ∧ w.cell? ⟨g, j * 2 + 1, none⟩ = some (.int .i64 (V x))

theorem WantAt.only {w w' : World} {wa : Option Addr} {L : List Nat} {V : Nat → Int} (h : WantAt w wa L V) {S : Nat → Prop} (o : Only S w w') (hS : ∀ i, i < w.heap.size → ¬ S i) : WantAt w' wa L V := fun j x hx => by
  obtain ⟨g, h1, h2, h3, h4⟩ := h j x hx
  exact ⟨g, h1, Nat.lt_of_lt_of_le h2 o.size, o.cell h3 (hS g h2), o.cell h4 (hS g h2)⟩

/-- A round of a loop over a row: what was told is the row's beginning; a counter lies in a box. -/
structure GI (Wc : World) (S : Nat → Prop) (Bk : Nat) (L : List Nat) (V : Nat → Int) (pre : List Item) (W : World) : Prop where
  pf : pre <+: L.map fun n => (n, V n)
  only : Only S Wc W
  ck : Cell W Bk 0 (.int .i64 (pre.length : Nat))
theorem GI.own {Wc : World} {B : Nat} (S : Nat → Prop) {Bk : Nat} {L : List Nat} {V : Nat → Int} (h0 : Wc.heap.size ≤ B) (h1 : Bk < B) : OwnFrom B (GI Wc S Bk L V) := fun pre X Y row h hg hr => by
  have hb : ∀ r, row = some r → B ≤ r := fun r e => (hr r e).1
  exact ⟨h.pf, h.only.grown hg (fun r e => Nat.le_trans h0 (hb r e)), h.ck.grown hg (fun r e => Nat.lt_of_lt_of_le h1 (hb r e))⟩

/-- The inner loop's: besides, the outer counter lies in its box. -/
structure GJ (Wc : World) (S : Nat → Prop) (Bk k Bm : Nat) (L : List Nat) (V : Nat → Int) (pre : List Item) (W : World) : Prop where
  gi : GI Wc S Bm L V pre W
  ck : Cell W Bk 0 (.int .i64 (k : Nat))
theorem GJ.own {Wc : World} {B : Nat} (S : Nat → Prop) {Bk k Bm : Nat} {L : List Nat} {V : Nat → Int} (h0 : Wc.heap.size ≤ B) (h1 : Bm < B) (h2 : Bk < B) : OwnFrom B (GJ Wc S Bk k Bm L V) := fun pre X Y row h hg hr =>
  ⟨GI.own S h0 h1 pre X Y row h.gi hg hr, h.ck.grown hg (fun r e => Nat.lt_of_lt_of_le h2 (hr r e).1)⟩

/-- The loop that is left early: nothing has been told. -/
def GE (Wc : World) (pre : List Item) (W : World) : Prop := pre = [] ∧ Only (fun _ => False) Wc W
theorem GE.own {Wc : World} {B : Nat} (h0 : Wc.heap.size ≤ B) : OwnFrom B (GE Wc) := fun pre X Y row h hg hr => ⟨h.1, h.2.grown hg (fun r e => Nat.le_trans h0 (hr r e).1)⟩
/-- It was left, with this result. -/
def GX (Wc : World) (Bres x0 : Nat) (c : Code) (pre : List Item) (W : World) : Prop := ∃ x : Item, pre = [x] ∧ c = .ret ∧ Cell W Bres 0 (.bool ((x.1 : Int) == (x0 : Int))) ∧ Only (· = Bres) Wc W
theorem GX.own {Wc : World} {B Bres x0 : Nat} (c : Code) (h0 : Wc.heap.size ≤ B) (h1 : Bres < B) : OwnFrom B (GX Wc Bres x0 c) := fun pre X Y row h hg hr => by
  obtain ⟨x, e1, e2, h3, h4⟩ := h
  exact ⟨x, e1, e2, h3.grown hg (fun r e => Nat.lt_of_lt_of_le h1 (hr r e).1), h4.grown hg (fun r e => Nat.le_trans h0 (hr r e).1)⟩

/-- The frame of goes: its boxes, the items in hand. -/
def gFrame (B : Nat) (x9 x10 x11 x12 x13 x14 : Value) (u : Nat → Value) : Array Value := #[u 0, u 1, u 2, u 3, u 4, .pointer (some ⟨B, 0, none⟩), .pointer (some ⟨B + 1, 0, none⟩), .pointer (some ⟨B + 1 + 1 + 1 + 1, 0, none⟩), .pointer (some ⟨B + 1 + 1 + 1 + 1 + 1, 0, none⟩), x9, x10, x11, x12, x13, x14, u 15, u 16, u 17, u 18, u 19, u 20, u 21, u 22, u 23, u 24, u 25, u 26, u 27, u 28, u 29, u 30, u 31, u 32, u 33, u 34, u 35, u 36, u 37, u 38, u 39, u 40, u 41, u 42, u 43, u 44, u 45, u 46, u 47, u 48, u 49, u 50, u 51, u 52, u 53, u 54, u 55, u 56, u 57, u 58, u 59, u 60, u 61, u 62, u 63, u 64, u 65, u 66, u 67, u 68, u 69, u 70, u 71, u 72, u 73, u 74, u 75, u 76, u 77, u 78, u 79, u 80, u 81, u 82, u 83, u 84, u 85, u 86, u 87, u 88, u 89, u 90, u 91, u 92, u 93, u 94, u 95, u 96, u 97, u 98, u 99, u 100]
theorem gF.of {a : Act} {B : Nat} {x9 x10 x11 x12 x13 x14 : Value} {ds : List Deferred} (e : a = { tmps := gFrame B x9 x10 x11 x12 x13 x14 (fun i => a.tmps.toList.getD i undef), defers := ds }) : ∃ x11 x12 x13 x14 u, a = { tmps := gFrame B x9 x10 x11 x12 x13 x14 u, defers := ds } := ⟨_, _, _, _, _, e⟩
theorem gF.of3 {a : Act} {B : Nat} {x9 x10 x11 x12 x13 x14 : Value} {ds : List Deferred} (e : a = { tmps := gFrame B x9 x10 x11 x12 x13 x14 (fun i => a.tmps.toList.getD i undef), defers := ds }) : ∃ x9 x10 x11 x12 x13 u, a = { tmps := gFrame B x9 x10 x11 x12 x13 x14 u, defers := ds } := ⟨_, _, _, _, _, _, e⟩
theorem gF.of2 {a : Act} {B : Nat} {x9 x10 x11 x12 x13 x14 : Value} {ds : List Deferred} (e : a = { tmps := gFrame B x9 x10 x11 x12 x13 x14 (fun i => a.tmps.toList.getD i undef), defers := ds }) : ∃ x14 u, a = { tmps := gFrame B x9 x10 x11 x12 x13 x14 u, defers := ds } := ⟨_, _, e⟩

set_option maxHeartbeats 8000000 in
set_option maxRecDepth 100000 in
theorem s_goes (w : World) (b gl gr gf nr room : Nat) (R : Nat → List Nat) (V : Nat → Int) (h : Lay w b gl gr gf nr room R V) (q : Int) (L : List Nat) (hL : (∃ r : Nat, r < nr ∧ q = r ∧ R r = L) ∨ (¬ (0 ≤ q ∧ q < nr) ∧ L = []))
    (wa : Option Addr) (n cap : Nat) (hn : n = L.length) (hcap : n ≤ cap) (hw : WantAt w wa L V) :
    Calls Try.prog 131 #[.pointer (some ⟨b, 0, none⟩), .int .i64 q, .slice wa n cap] w fun e w' => e = .returned (.bool true) ∧ Only (fun _ => False) w w' := by
  have hfn : ∀ (W : World) (x y : Array Value), (binOp BinOp.eql 113 (.func (.func 118) x y) .nilFunc).run Try.prog W = .ok (.bool false) W := fun W x y => by kernel_rfl
  have hnd : L.Nodup := by
    rcases hL with ⟨r, hr, _, e⟩ | ⟨_, e⟩
    · rw [← e]; exact h.nd hr
    · rw [e]; exact List.nodup_nil
  have hLr : L = [] ∨ ∃ r, r < nr ∧ R r = L := by
    rcases hL with ⟨r, hr, _, e⟩ | ⟨_, e⟩
    · exact .inr ⟨r, hr, e⟩
    · exact .inl e
  have hsm : n ≤ 65536 := by
    rcases hL with ⟨r, hr, _, e⟩ | ⟨_, e⟩
    · have h1 := h.ok.len r hr
      have h2 := h.small
      rw [e] at h1
      omega
    · rw [hn, e]; simp
  have hfirst : ∀ W, Lay W b gl gr gf nr room R V → Calls Try.prog 42 #[.pointer (some ⟨b, 0, none⟩), .int .i64 q] W fun e w' => e = .returned (.int .i64 (hdI L)) ∧ W = w' := fun W hW => by
    rcases hL with ⟨r, hr, rfl, e⟩ | ⟨hr, e⟩
    · have := h_first W b gl gr gf nr room R V hW r hr
      rwa [e] at this
    · rw [e]; exact h_first_no W b gl gr gf nr room R V hW q hr
  have hblk := h.blk
  have HH := Lib.hid h
  have HN := Lib.hid hn
  have HW := Lib.hid hw
  clear h hn hL hw
  refine callsIn_wide.1 (callsIn_of_wp_marks (n := 14) Try.func131 rfl trivial (wpIn_wide.2 ?_) rfl)
  simp only [Try.ntmps131, List.size_toArray, List.length_cons, List.length_nil, Nat.reduceAdd, Nat.reduceSub, Array.replicate_succ, Array.replicate_zero, List.push_toArray, List.append_toArray, List.nil_append, List.cons_append]
  have HFN := Lib.hid hfirst
  have HND := Lib.hid hnd
  have HLR := Lib.hid hLr
  have HBL := Lib.hid hblk
  clear hfirst hnd hLr hblk
  go_wp2_with fail
  refine (s_all _ b q).mono ?_
  rintro e w1 ⟨rfl, rfl⟩
  go_wp2_with fail
  have hblk := HBL.out
  have a0 := (((((Cell.new (w := w) (cs := #[.slice wa n cap]) (t := 194) (o := 0) rfl).alloc (.cells #[.bool false] 4)).alloc (.cells #[.pointer (some ⟨b, 0, none⟩)] 59)).alloc (.cells #[.int .i64 q] 3)).alloc (.cells #[.func (.func 118) #[] #[.pointer (some ⟨w.heap.size + 1 + 1, 0, none⟩), .pointer (some ⟨w.heap.size + 1 + 1 + 1, 0, none⟩)]] 113)).alloc (.cells #[.int .i64 0] 3)
  have a1 := ((((Cell.new (w := w.alloc (.cells #[.slice wa n cap] 194)) (cs := #[.bool false]) (t := 4) (o := 0) rfl).alloc (.cells #[.pointer (some ⟨b, 0, none⟩)] 59)).alloc (.cells #[.int .i64 q] 3)).alloc (.cells #[.func (.func 118) #[] #[.pointer (some ⟨w.heap.size + 1 + 1, 0, none⟩), .pointer (some ⟨w.heap.size + 1 + 1 + 1, 0, none⟩)]] 113)).alloc (.cells #[.int .i64 0] 3)
  have a2 := (((Cell.new (w := (w.alloc (.cells #[.slice wa n cap] 194)).alloc (.cells #[.bool false] 4)) (cs := #[.pointer (some ⟨b, 0, none⟩)]) (t := 59) (o := 0) rfl).alloc (.cells #[.int .i64 q] 3)).alloc (.cells #[.func (.func 118) #[] #[.pointer (some ⟨w.heap.size + 1 + 1, 0, none⟩), .pointer (some ⟨w.heap.size + 1 + 1 + 1, 0, none⟩)]] 113)).alloc (.cells #[.int .i64 0] 3)
  have a3 := ((Cell.new (w := ((w.alloc (.cells #[.slice wa n cap] 194)).alloc (.cells #[.bool false] 4)).alloc (.cells #[.pointer (some ⟨b, 0, none⟩)] 59)) (cs := #[.int .i64 q]) (t := 3) (o := 0) rfl).alloc (.cells #[.func (.func 118) #[] #[.pointer (some ⟨w.heap.size + 1 + 1, 0, none⟩), .pointer (some ⟨w.heap.size + 1 + 1 + 1, 0, none⟩)]] 113)).alloc (.cells #[.int .i64 0] 3)
  have a4 := (Cell.new (w := (((w.alloc (.cells #[.slice wa n cap] 194)).alloc (.cells #[.bool false] 4)).alloc (.cells #[.pointer (some ⟨b, 0, none⟩)] 59)).alloc (.cells #[.int .i64 q] 3)) (cs := #[.func (.func 118) #[] #[.pointer (some ⟨w.heap.size + 1 + 1, 0, none⟩), .pointer (some ⟨w.heap.size + 1 + 1 + 1, 0, none⟩)]]) (t := 113) (o := 0) rfl).alloc (.cells #[.int .i64 0] 3)
  have a5 := Cell.new (w := ((((w.alloc (.cells #[.slice wa n cap] 194)).alloc (.cells #[.bool false] 4)).alloc (.cells #[.pointer (some ⟨b, 0, none⟩)] 59)).alloc (.cells #[.int .i64 q] 3)).alloc (.cells #[.func (.func 118) #[] #[.pointer (some ⟨w.heap.size + 1 + 1, 0, none⟩), .pointer (some ⟨w.heap.size + 1 + 1 + 1, 0, none⟩)]] 113)) (cs := #[.int .i64 0]) (t := 3) (o := 0) rfl
  have oc := ((((((Only.refl (fun _ => False) w).alloc (.cells #[.slice wa n cap] 194)).alloc (.cells #[.bool false] 4)).alloc (.cells #[.pointer (some ⟨b, 0, none⟩)] 59)).alloc (.cells #[.int .i64 q] 3)).alloc (.cells #[.func (.func 118) #[] #[.pointer (some ⟨w.heap.size + 1 + 1, 0, none⟩), .pointer (some ⟨w.heap.size + 1 + 1 + 1, 0, none⟩)]] 113)).alloc (.cells #[.int .i64 0] 3)
  obtain ⟨Wc, hWc⟩ : ∃ Wc, (((((w.alloc (.cells #[.slice wa n cap] 194)).alloc (.cells #[.bool false] 4)).alloc (.cells #[.pointer (some ⟨b, 0, none⟩)] 59)).alloc (.cells #[.int .i64 q] 3)).alloc (.cells #[.func (.func 118) #[] #[.pointer (some ⟨w.heap.size + 1 + 1, 0, none⟩), .pointer (some ⟨w.heap.size + 1 + 1 + 1, 0, none⟩)]] 113)).alloc (.cells #[.int .i64 0] 3) = Wc := ⟨_, rfl⟩
  have sWc : Wc.heap.size = w.heap.size + 1 + 1 + 1 + 1 + 1 + 1 := by rw [← hWc]; simp only [World.size_alloc]
  simp only [World.size_alloc] at a1 a2 a3 a4 a5
  rw [hWc] at a0 a1 a2 a3 a4 a5 oc ⊢
  clear hWc
  obtain ⟨B, hB⟩ : ∃ B, w.heap.size = B := ⟨_, rfl⟩
  simp only [hB] at a0 a1 a2 a3 a4 a5 sWc hblk ⊢
  have LWc := HH.out.keep oc (fun _ _ => id)
  have WWc := HW.out.only oc (fun _ _ => id)
  have hnb : ∀ i, Blk4 b gl gr gf i → i < B := fun i hi => by have := hblk i hi; omega
  have kput : ∀ i, KS b gl gr gf (B + 1 + 1) i → i < Wc.heap.size := fun i hi => by
    rcases hi with hi | hi
    · have := hnb i hi; omega
    · omega
  refine (wpIn_wide (n := 14)).1 ?_
  refine wpIn_rangeFunc_ownH rfl (by decide) (gf := 118) (lb := #[.pointer (some ⟨B + 1 + 1, 0, none⟩), .pointer (some ⟨B + 1 + 1 + 1, 0, none⟩)]) rfl trivial (enters_of Try.func118 (by kernel_rfl) rfl)
    (all_stops 13 (by decide) Wc (B + 1 + 1) (B + 1 + 1 + 1) b gl gr gf nr room R V q L HND.out HLR.out HFN.out a2.cell a3.cell LWc)
    KeepB.trans (KeepB.put kput) (Below.refl _ _) (fun _ => rfl)
    (GI Wc (· = B + 1 + 1 + 1 + 1 + 1) (B + 1 + 1 + 1 + 1 + 1) L V) (fun _ pre _ => ¬ pre <+: L.map fun n => (n, V n))
    (GI.own _ (Nat.le_refl _) (by omega)) (fun _ _ _ _ _ h _ _ => h) ⟨List.nil_prefix, Only.refl _ _, a5⟩
    (fun x a' _ => ∃ x11 x12 x13 x14 u, a' = { tmps := gFrame B (.int .i64 x.1) (.int .i64 x.2) x11 x12 x13 x14 u, defers := [] })
    (fun _ _ _ _ _ _ hs _ _ => hs)
    ?assign ?body ?done ?stop
  case assign =>
    intro l pre x W K hi hK
    unfold encI
    gi_wp2
    exact hK _ _ (KeepsFrom.refl _ _) (KeepB.refl _ _) hi (gF.of (x11 := undef) (x12 := undef) (x13 := undef) (x14 := undef) (by kernel_rfl))
  case stop => exact fun D c pre W' _ h1 h2 _ => absurd h1 h2
  case body =>
    intro l pre x a' W hl hrec hI hA hlen
    obtain ⟨x11, x12, x13, x14, u, rfl⟩ := hA
    obtain ⟨rec, hrec⟩ := hrec
    obtain ⟨xn, xv⟩ := x
    obtain ⟨l1, m, l2, hs, hl1, hp, hno⟩ := item_next hI.pf hlen
    have f0 := (a0.only hI.only (by show ¬ (B = B + 1 + 1 + 1 + 1 + 1); omega)).cell
    have r1 := a1.only hI.only (by show ¬ (B + 1 = B + 1 + 1 + 1 + 1 + 1); omega)
    have f1 := r1.cell
    have f1' := r1.free
    have f4 := (a4.only hI.only (by show ¬ (B + 1 + 1 + 1 + 1 = B + 1 + 1 + 1 + 1 + 1); omega)).cell
    have f2 := (a2.only hI.only (by show ¬ (B + 1 + 1 = B + 1 + 1 + 1 + 1 + 1); omega))
    have f3 := (a3.only hI.only (by show ¬ (B + 1 + 1 + 1 = B + 1 + 1 + 1 + 1 + 1); omega))
    have f5 := hI.ck.cell
    have f5' := hI.ck.free
    have hsz := hI.only.size
    have LW := LWc.keep hI.only (fun i hi => by have := hnb i hi; show ¬ (i = B + 1 + 1 + 1 + 1 + 1); omega)
    obtain ⟨g, eg, hg, wn, wv⟩ := HW.out pre.length m (by rw [hs, ← hl1]; simp)
    have hgB : g < B := by omega
    have wn := hI.only.cell (oc.cell wn id) (by show ¬ (g = B + 1 + 1 + 1 + 1 + 1); omega)
    have wv := hI.only.cell (oc.cell wv id) (by show ¬ (g = B + 1 + 1 + 1 + 1 + 1); omega)
    subst eg
    have zg : g < W.heap.size := by omega
    have z0 := cell_lt f0
    have z1 := cell_lt f1
    have z4 := cell_lt f4
    have z5 := cell_lt f5
    obtain ⟨p, hpp⟩ : ∃ p, p = pre.length := ⟨_, rfl⟩
    rw [← hpp] at f5 wn wv
    have hpn : p < n := by rw [hpp, HN.out]; exact hlen
    have ip : (0 : Int) ≤ (p : Int) ∧ (p : Int) < (n : Int) := by omega
    have tp : decide (n ≤ p) = false := by simp; omega
    have tp' : decide ((n : Int) ≤ (p : Int)) = false := by simp; omega
    have w1 : IntKind.i64.wrap ((p : Int) + 1) = (p : Int) + 1 := by rw [IntKind.wrap_i64]; omega
    have HI := Lib.hid hI
    have HS := Lib.hid hs
    have HP := Lib.hid hp
    have HNO := Lib.hid hno
    have HPP := Lib.hid hpp
    have HLW := Lib.hid LW
    have HREC := Lib.hid hrec
    have HR1 := Lib.hid r1
    have HF2 := Lib.hid f2
    have HF3 := Lib.hid f3
    have A0 := Lib.hid a0
    clear hI hs hp hno hl1 hpp LW hrec r1 f2 f3 a0 a1 a2 a3 a4 a5
    have bad : ∀ (v : Value), xn ≠ m ∨ xv ≠ V m → ownPostG Wc.heap.size (KeepB (KS b gl gr gf (B + 1 + 1))) (GI Wc (· = B + 1 + 1 + 1 + 1 + 1) (B + 1 + 1 + 1 + 1 + 1) L V) (fun _ pre _ => ¬ pre <+: L.map fun n => (n, V n)) (pre ++ [(xn, xv)]) W .ret { tmps := #[], defers := [] } (W.setCell ⟨B + 1, 0, none⟩ v) := fun v hx =>
      ⟨keepsFrom_of_only (T := (· = B + 1)) ((Only.refl (· = B + 1) W).setCell (p := ⟨B + 1, 0, none⟩) (.inl rfl) _) (fun i e => by omega), HNO.out _ (fun e => by injection e with e1 e2; rcases hx with hx | hx; exact hx e1; exact hx e2)⟩
    have BAD := Lib.hid bad
    clear bad
    by_cases h1 : xn = m
    · subst h1
      have t2 : (xn != xn) = false := by simp
      by_cases h2 : xv = V xn
      · subst h2
        have t3 : (V xn != V xn) = false := by simp
        have ho : Only (· = B + 1 + 1 + 1 + 1 + 1) W (W.setCell ⟨B + 1 + 1 + 1 + 1 + 1, 0, none⟩ (.int .i64 ((p : Int) + 1))) := (Only.refl (· = B + 1 + 1 + 1 + 1 + 1) W).setCell (.inl rfl) _
        have HO := Lib.hid ho
        have cks : Cell (W.setCell ⟨B + 1 + 1 + 1 + 1 + 1, 0, none⟩ (.int .i64 ((p : Int) + 1))) (B + 1 + 1 + 1 + 1 + 1) 0 (.int .i64 ((p : Int) + 1)) := HI.out.ck.set _
        have HCK := Lib.hid cks
        clear ho cks
        by_cases h3 : p = 1
        · subst h3
          have tn : decide ((n : Int) ≤ 1) = false := by simp; omega
          dsimp only [gFrame]
          gi_wp2
          have eP : ((1 : Nat) : Int) + 1 = 2 := rfl
          obtain ⟨W1, hW1⟩ : ∃ W1, W.setCell ⟨B + 1 + 1 + 1 + 1 + 1, 0, none⟩ (.int .i64 2) = W1 := ⟨_, rfl⟩
          have HO := HO.out
          have HCK := HCK.out
          simp only [eP] at HO HCK
          rw [hW1] at HO HCK ⊢
          have sW1 : W1.heap.size = W.heap.size := by rw [← hW1]; simp
          clear hW1
          have cm := Cell.new (w := W1) (cs := #[.int .i64 0]) (t := 3) (o := 0) rfl
          have o12 := (Only.refl (fun _ => False) W1).alloc (.cells #[.int .i64 0] 3)
          have hrec2 : (W1.alloc (.cells #[.int .i64 0] 3)).heap[l]? = some (.loop rec) := by
            have hl3 := (Array.getElem?_eq_some_iff.1 HREC.out).1
            refine (Below.heap_alloc W1 _ l (by omega)).trans ((HO.block l hl3 ?_).trans HREC.out)
            show ¬ (l = B + 1 + 1 + 1 + 1 + 1)
            omega
          obtain ⟨W2, hW2⟩ : ∃ W2, W1.alloc (.cells #[.int .i64 0] 3) = W2 := ⟨_, rfl⟩
          have sW2 : W2.heap.size = W.heap.size + 1 := by rw [← hW2, World.size_alloc, sW1]
          rw [sW1] at cm
          rw [hW2] at cm o12 hrec2 ⊢
          clear hW2
          have o02 : Only (· = B + 1 + 1 + 1 + 1 + 1) W W2 := HO.then0 o12
          have LW2 := HLW.out.keep o02 (fun i hi => by have := hnb i hi; show ¬ (i = B + 1 + 1 + 1 + 1 + 1); omega)
          have kput2 : ∀ i, KS b gl gr gf (B + 1 + 1) i → i < W2.heap.size := fun i hi => by have := kput i hi; omega
          have ck2 := HCK.only o12 id
          have O02 := Lib.hid o02
          clear o02 HO HCK f5 f5' wn wv f0 f1 f1' f4
          have r0 := (A0.out.only HI.out.only (by show ¬ (B = B + 1 + 1 + 1 + 1 + 1); omega)).only O02.out (by show ¬ (B = B + 1 + 1 + 1 + 1 + 1); omega)
          have r1 := HR1.out.only O02.out (by show ¬ (B + 1 = B + 1 + 1 + 1 + 1 + 1); omega)
          refine wpIn_rangeFunc_ownN (l₀ := l) (r₀ := rec) rfl hrec2 (by decide) (gf := 118) (lb := #[.pointer (some ⟨B + 1 + 1, 0, none⟩), .pointer (some ⟨B + 1 + 1 + 1, 0, none⟩)]) rfl trivial (enters_of Try.func118 (by kernel_rfl) rfl)
            ((all_stops 11 (by decide) W2 (B + 1 + 1) (B + 1 + 1 + 1) b gl gr gf nr room R V q L HND.out HLR.out HFN.out (HF2.out.only O02.out (by show ¬ (B + 1 + 1 = B + 1 + 1 + 1 + 1 + 1); omega)).cell (HF3.out.only O02.out (by show ¬ (B + 1 + 1 + 1 = B + 1 + 1 + 1 + 1 + 1); omega)).cell LW2).inRound l)
            KeepB.trans (KeepB.put kput2) (Below.refl _ _) (fun _ => rfl)
            (GJ W2 (· = W.heap.size) (B + 1 + 1 + 1 + 1 + 1) 2 W.heap.size L V) (fun _ pre _ => ¬ pre <+: L.map fun n => (n, V n))
            (GJ.own _ (Nat.le_refl _) (by omega) (by omega)) (fun _ _ _ _ _ h _ _ => h) ⟨⟨List.nil_prefix, Only.refl _ _, cm⟩, ck2⟩
            (fun y a' _ => ∃ x14 u, a' = { tmps := gFrame B (.int .i64 xn) (.int .i64 (V xn)) (.pointer (some ⟨W.heap.size, 0, none⟩)) (.int .i64 y.1) (.int .i64 y.2) x14 u, defers := [] })
            (fun _ _ _ _ _ _ hs _ _ => hs)
            ?assign2 ?body2 ?done2 ?stop2
          case assign2 =>
            intro l' pre' y W' K hi hK
            unfold encI
            gi_wp2
            exact hK _ _ (KeepsFrom.refl _ _) (KeepB.refl _ _) hi (gF.of2 (x14 := x14) (by kernel_rfl))
          case stop2 => exact fun c pre' W' h1 h2 => absurd h1 h2
          case body2 =>
            clear hlen hsz
            intro l' pre' y a' W' hl' hrec' hI' hA' hlen'
            obtain ⟨x14', u', rfl⟩ := hA'
            obtain ⟨yn, yv⟩ := y
            obtain ⟨l1', m', l2', hs', hl1', hp', hno'⟩ := item_next hI'.gi.pf hlen'
            have hBk : ¬ (B = W.heap.size) := by omega
            have hB1 : ¬ (B + 1 = W.heap.size) := by omega
            have f0 := (r0.only hI'.gi.only hBk).cell
            have r1' := r1.only hI'.gi.only hB1
            have f1 := r1'.cell
            have f1' := r1'.free
            have f6 := hI'.gi.ck.cell
            have f6' := hI'.gi.ck.free
            obtain ⟨g', eg, hg', wn, wv⟩ := HW.out pre'.length m' (by rw [hs', ← hl1']; simp)
            obtain rfl : g = g' := by injection eg with eg; injection eg with eg
            have wn := hI'.gi.only.cell (O02.out.cell (HI.out.only.cell (oc.cell wn id) (by show ¬ (g = B + 1 + 1 + 1 + 1 + 1); omega)) (by show ¬ (g = B + 1 + 1 + 1 + 1 + 1); omega)) (by show ¬ (g = W.heap.size); omega)
            have wv := hI'.gi.only.cell (O02.out.cell (HI.out.only.cell (oc.cell wv id) (by show ¬ (g = B + 1 + 1 + 1 + 1 + 1); omega)) (by show ¬ (g = B + 1 + 1 + 1 + 1 + 1); omega)) (by show ¬ (g = W.heap.size); omega)
            have zg := cell_lt wn
            have z0 := cell_lt f0
            have z1 := cell_lt f1
            have z6 := cell_lt f6
            obtain ⟨p, hpp⟩ : ∃ p, p = pre'.length := ⟨_, rfl⟩
            rw [← hpp] at f6 wn wv
            have hpn : p < n := by rw [hpp, HN.out]; exact hlen'
            have ip : (0 : Int) ≤ (p : Int) ∧ (p : Int) < (n : Int) := by omega
            have tp : decide (n ≤ p) = false := by simp; omega
            have tp' : decide ((n : Int) ≤ (p : Int)) = false := by simp; omega
            have w1 : IntKind.i64.wrap ((p : Int) + 1) = (p : Int) + 1 := by rw [IntKind.wrap_i64]; omega
            have HI' := Lib.hid hI'
            have HP' := Lib.hid hp'
            have HNO' := Lib.hid hno'
            have HPP' := Lib.hid hpp
            have bad : ∀ (v : Value), yn ≠ m' ∨ yv ≠ V m' → ownPostG W2.heap.size (KeepB (KS b gl gr gf (B + 1 + 1))) (GJ W2 (· = W.heap.size) (B + 1 + 1 + 1 + 1 + 1) 2 W.heap.size L V) (fun _ pre _ => ¬ pre <+: L.map fun n => (n, V n)) (pre' ++ [(yn, yv)]) W' .ret { tmps := #[], defers := [] } (W'.setCell ⟨B + 1, 0, none⟩ v) := fun v hx =>
              ⟨keepsFrom_of_only (T := (· = B + 1)) ((Only.refl (· = B + 1) W').setCell (p := ⟨B + 1, 0, none⟩) (.inl rfl) _) (fun i e => by omega), HNO'.out _ (fun e => by injection e with e1 e2; rcases hx with hx | hx; exact hx e1; exact hx e2)⟩
            have BAD' := Lib.hid bad
            clear bad hI' hs' hl1' hp' hno' hpp r1' hBk hB1 eg hg'
            by_cases h1 : yn = m'
            · subst h1
              have t2 : (yn != yn) = false := by simp
              by_cases h2 : yv = V yn
              · subst h2
                have t3 : (V yn != V yn) = false := by simp
                have ho : Only (· = W.heap.size) W' (W'.setCell ⟨W.heap.size, 0, none⟩ (.int .i64 ((p : Int) + 1))) := (Only.refl (· = W.heap.size) W').setCell (.inl rfl) _
                have HO := Lib.hid ho
                have cks : Cell (W'.setCell ⟨W.heap.size, 0, none⟩ (.int .i64 ((p : Int) + 1))) W.heap.size 0 (.int .i64 ((p : Int) + 1)) := HI'.out.gi.ck.set _
                have HCK := Lib.hid cks
                clear ho cks
                dsimp only [gFrame]
                gi_wp2
                have hsz' := HI'.out.gi.only.size
                refine ⟨keepsFrom_of_only HO.out (fun i e => by omega), KeepB.only HO.out (fun i hi => ⟨by have := kput2 i hi; omega, ?_⟩), ⟨⟨HP'.out, HI'.out.gi.only.trans HO.out, ?_⟩, HI'.out.ck.only HO.out (by show ¬ (B + 1 + 1 + 1 + 1 + 1 = W.heap.size); omega)⟩⟩
                · have := kput i hi; show ¬ (i = W.heap.size); omega
                · rw [List.length_append, ← HPP'.out]; exact HCK.out
              · have t3 : (yv != V yn) = true := by simpa using h2
                dsimp only [gFrame]
                gi_wp2
                exact BAD'.out _ (.inr h2)
            · have t2 : (yn != m') = true := by simpa using h1
              have t2' : ((yn : Int) != (m' : Int)) = true := by simp; omega
              dsimp only [gFrame]
              gi_wp2
              exact BAD'.out _ (.inl h1)
          case done2 =>
            intro ys W' hys hJ
            subst hys
            have f0 := (r0.only hJ.gi.only (by show ¬ (B = W.heap.size); omega)).cell
            have f6 := hJ.gi.ck.cell
            rw [List.length_map, ← HN.out] at f6
            have z0 := cell_lt f0
            have z6 := cell_lt f6
            have t6 : (n != n) = false := by simp
            have HJ := Lib.hid hJ
            clear hJ
            gi_wp2
            have o03 : Only (· = B + 1 + 1 + 1 + 1 + 1) W W' := O02.out.trans' HJ.out.gi.only (fun i hi e => by omega)
            refine ⟨keepsFrom_of_only o03 (fun i e => by omega), KeepB.only o03 (fun i hi => ⟨by have := kput i hi; omega, ?_⟩), ⟨HP.out, HI.out.only.trans o03, ?_⟩⟩
            · rcases hi with hi | hi
              · have := hnb i hi; show ¬ (i = B + 1 + 1 + 1 + 1 + 1); omega
              · show ¬ (i = B + 1 + 1 + 1 + 1 + 1); omega
            · rw [List.length_append, ← HPP.out]; exact HJ.out.ck
        · have t4 : ((p : Int) + 1 == 2) = false := by simp; omega
          dsimp only [gFrame]
          gi_wp2
          refine ⟨keepsFrom_of_only HO.out (fun i e => by omega), KeepB.only HO.out (fun i hi => ⟨by have := kput i hi; omega, ?_⟩), ⟨HP.out, HI.out.only.trans HO.out, ?_⟩⟩
          · rcases hi with hi | hi
            · have := hnb i hi; show ¬ (i = B + 1 + 1 + 1 + 1 + 1); omega
            · show ¬ (i = B + 1 + 1 + 1 + 1 + 1); omega
          · rw [List.length_append, ← HPP.out]; exact HCK.out
      · have t3 : (xv != V xn) = true := by simpa using h2
        dsimp only [gFrame]
        gi_wp2
        exact BAD.out _ (.inr h2)
    · have t2 : (xn != m) = true := by simpa using h1
      have t2' : ((xn : Int) != (m : Int)) = true := by simp; omega
      dsimp only [gFrame]
      gi_wp2
      exact BAD.out _ (.inl h1)
  case done =>
    intro D xs W hD hxs hI hdd
    subst hxs
    have f0 := (a0.only hI.only (by show ¬ (B = B + 1 + 1 + 1 + 1 + 1); omega)).cell
    have r1 := a1.only hI.only (by show ¬ (B + 1 = B + 1 + 1 + 1 + 1 + 1); omega)
    have f4 := (a4.only hI.only (by show ¬ (B + 1 + 1 + 1 + 1 = B + 1 + 1 + 1 + 1 + 1); omega)).cell
    have f2 := (a2.only hI.only (by show ¬ (B + 1 + 1 = B + 1 + 1 + 1 + 1 + 1); omega)).cell
    have f3 := (a3.only hI.only (by show ¬ (B + 1 + 1 + 1 = B + 1 + 1 + 1 + 1 + 1); omega)).cell
    have f5 := hI.ck.cell
    rw [List.length_map, ← HN.out] at f5
    have z0 := cell_lt f0
    have z4 := cell_lt f4
    have z5 := cell_lt f5
    have t6 : (n != n) = false := by simp
    have LW := LWc.keep hI.only (fun i hi => by have := hnb i hi; show ¬ (i = B + 1 + 1 + 1 + 1 + 1); omega)
    have kput3 : ∀ i, KS b gl gr gf (B + 1 + 1) i → i < W.heap.size := fun i hi => by have := kput i hi; have := hI.only.size; omega
    have oW : Only (fun _ => False) w W := oc.trans' hI.only (fun i hi e => by omega)
    have ww := HW.out.only oW (fun _ _ => id)
    have HWW := Lib.hid ww
    have HOW := Lib.hid oW
    have HR1 := Lib.hid r1
    have HLW := Lib.hid LW
    have HDD := Lib.hid hdd
    clear hI r1 LW hdd oW ww a0 a1 a2 a3 a4 a5
    go_wp2_with fail
    refine (wpIn_wide (n := 14)).1 ?_
    refine wpIn_rangeFunc_ownH rfl (by decide) (gf := 118) (lb := #[.pointer (some ⟨B + 1 + 1, 0, none⟩), .pointer (some ⟨B + 1 + 1 + 1, 0, none⟩)]) rfl trivial (enters_of Try.func118 (by kernel_rfl) rfl)
      (all_stops 13 (by decide) W (B + 1 + 1) (B + 1 + 1 + 1) b gl gr gf nr room R V q L HND.out HLR.out HFN.out f2 f3 HLW.out)
      KeepB.trans (KeepB.put kput3) (Below.refl _ _) (fun _ => rfl)
      (GE W) (GX W (B + 1) (L.headD 0)) (GE.own (Nat.le_refl _)) (fun c => GX.own c (Nat.le_refl _) (by omega)) ⟨rfl, Only.refl _ _⟩
      (fun x a' _ => ∃ x9 x10 x11 x12 x13 u, a' = { tmps := gFrame B x9 x10 x11 x12 x13 (.int .i64 x.1) u, defers := [] })
      (fun _ _ _ _ _ _ hs _ _ => hs)
      ?assign3 ?body3 ?done3 ?stop3
    case assign3 =>
      intro l pre x W' K hi hK
      unfold encI
      gi_wp2
      exact hK _ _ (KeepsFrom.refl _ _) (KeepB.refl _ _) hi (gF.of3 (x9 := undef) (x10 := undef) (x11 := undef) (x12 := undef) (x13 := undef) (by kernel_rfl))
    case body3 =>
      intro l pre x a' W' hl hrec hI hA hlen
      obtain ⟨x9, x10, x11, x12, x13, u, rfl⟩ := hA
      obtain ⟨rfl, oE⟩ := hI
      have f0 := oE.cell f0 id
      have r1' := HR1.out.only oE id
      have f1 := r1'.cell
      have f1' := r1'.free
      have hn0 : 0 < n := by rw [HN.out]; simpa using hlen
      obtain ⟨m, hm⟩ : ∃ m, L[0]? = some m := ⟨_, List.getElem?_eq_getElem (by rw [← HN.out]; exact hn0)⟩
      have hm2 : L.headD 0 = m := by cases L with | nil => simp at hm | cons y t => simpa using hm
      obtain ⟨g, eg, hg, wn, wv⟩ := HWW.out 0 m hm
      have wn := oE.cell wn id
      subst eg
      have zg := cell_lt wn
      have z0 := cell_lt f0
      have z1 := cell_lt f1
      have t1 : decide ((0 : Int) < (n : Int)) = true := by simp; omega
      have t1' : decide (0 < n) = true := by simp; omega
      have i0 : (0 : Int) < (n : Int) := by omega
      simp only [Nat.zero_mul] at wn
      have HM2 := Lib.hid hm2
      have HOE := Lib.hid oE
      have HR1' := Lib.hid r1'
      clear hm hm2 oE r1' wv
      dsimp only [gFrame]
      gi_wp2
      exact ⟨keepsFrom_of_only (T := (· = B + 1)) ((Only.refl (· = B + 1) W').setCell (p := ⟨B + 1, 0, none⟩) (.inl rfl) _) (fun i e => by omega), x, rfl, rfl, by rw [HM2.out]; exact HR1'.out.set _, (Only.of_none (S := (· = B + 1)) HOE.out).setCell (.inl rfl) _⟩
    case done3 =>
      intro D' xs W' hD' hxs hI hdd'
      subst hxs
      obtain ⟨e0, oE⟩ := hI
      have e1 : L = [] := by cases L with | nil => rfl | cons y t => cases e0
      have e2 : n = 0 := by rw [HN.out, e1]; rfl
      subst e2
      have f0 := oE.cell f0 id
      have r1' := HR1.out.only oE id
      have f1 := r1'.cell
      have f1' := r1'.free
      have z0 := cell_lt f0
      have z1 := cell_lt f1
      have HOE := Lib.hid oE
      have HR1' := Lib.hid r1'
      have HDD' := Lib.hid hdd'
      clear e0 e1 oE r1' hdd'
      go_wp2_with fail
      refine leaves_marks [D', D] _ (by have := (Array.getElem?_eq_some_iff.1 HDD.out).1; simp; omega) (fun E hE => ?_) (fun w' ho' => ?_)
      · have hlt := (Array.getElem?_eq_some_iff.1 HDD'.out).1
        have hlt2 := (Array.getElem?_eq_some_iff.1 HDD.out).1
        simp only [List.mem_cons, List.mem_nil_iff, or_false] at hE
        rcases hE with e | e
        · subst e; rw [Below.heap_setCell _ _ _ _ (by show E ≠ B + 1; omega)]; exact HDD'.out
        · subst e; rw [Below.heap_setCell _ _ _ _ (by show E ≠ B + 1; omega)]; exact (HOE.out.block E hlt2 id).trans HDD.out
      · have hc := ((HR1'.out.set (.bool true)).only ho' (fun hD => by simp only [List.mem_cons, List.mem_nil_iff, or_false] at hD; omega)).cell
        refine ⟨.bool true, ?_, rfl, ?_⟩
        · simp [results, Try.f131, go_sem, hc]
        · exact ((HOW.out.trans HOE.out).setCell (.inr (by show w.heap.size ≤ B + 1; omega)) _).trans' ho' (fun i hi hD => by simp only [List.mem_cons, List.mem_nil_iff, or_false] at hD; omega)
    case stop3 =>
      intro D' c pre W' hD' hsp hx hdd'
      obtain ⟨x, rfl, rfl, c1, o1⟩ := hx
      have hx0 : x.1 = L.headD 0 := by
        obtain ⟨t, ht⟩ := hsp
        cases L with
        | nil => simp at ht
        | cons y s => simp at ht; rw [ht.1]; rfl
      rw [hx0] at c1
      simp only [beq_self_eq_true] at c1
      refine wpIn_wide.2 ?_
      go_wp2_with fail
      refine leaves_marks [D', D] _ (by have := (Array.getElem?_eq_some_iff.1 HDD.out).1; simp; omega) (fun E hE => ?_) (fun w' ho' => ?_)
      · have hlt2 := (Array.getElem?_eq_some_iff.1 HDD.out).1
        simp only [List.mem_cons, List.mem_nil_iff, or_false] at hE
        rcases hE with e | e
        · subst e; exact hdd'
        · subst e; exact (o1.block E hlt2 (by show ¬ (E = B + 1); omega)).trans HDD.out
      · have hc := (c1.only ho' (fun hD => by simp only [List.mem_cons, List.mem_nil_iff, or_false] at hD; omega)).cell
        refine ⟨.bool true, ?_, rfl, ?_⟩
        · simp [results, Try.f131, go_sem, hc]
        · exact (HOW.out.trans' o1 (fun i hi e => by omega)).trans' ho' (fun i hi hD => by simp only [List.mem_cons, List.mem_nil_iff, or_false] at hD; omega)
end Go.Proofs.Ytiiflgihjnlmcaa
