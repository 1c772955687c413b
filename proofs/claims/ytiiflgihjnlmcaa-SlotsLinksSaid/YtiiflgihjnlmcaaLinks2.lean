/- SlotsLinks: the walk. No condition. -/
import Derived.Test.YtiiflgihjnlmcaaLinks1
import Derived.Test.YtiiflgihjnlmcaaMarks
import Derived.Test.YtiiflgihjnlmcaaLinksL
import Derived.Test.YtiiflgihjnlmcaaSlotsX
import Derived.StillTailTactics
import Derived.Deep.CutBlock
import Derived.Deep.CutRange
import Derived.Deep.DeepCutAuto
namespace Go.Proofs.Ytiiflgihjnlmcaa
set_option linter.unusedVariables false
set_option linter.unusedSimpArgs false
open Go.RowKit Go.Shelf
attribute [local go_sem] Oper.semAt_some

theorem Try.infoBool2 : (Try.prog.info? 4).map (fun i => (i.zero, i.size, i.bytes)) = some (some (.bool false), 1, 1) := by kernel_rfl
theorem Some4.keep {w w' : World} {b gl gr gf nr room : Nat} (h : Some4 w b gl gr gf nr room) (ho : Only (fun _ => False) w w') : Some4 w' b gl gr gf nr room := by
  obtain ⟨R, V, h⟩ := h
  exact ⟨R, V, h.keep ho (fun _ _ => id)⟩

theorem rowsL_mono (R : Nat → List Nat) {m n : Nat} (h : m ≤ n) : (rowsL R m).length ≤ (rowsL R n).length := by
  induction n with
  | zero => have : m = 0 := by omega
            subst this; exact Nat.le_refl _
  | succ n ih =>
    rcases Nat.lt_or_ge m (n + 1) with h1 | h1
    · have := ih (by omega)
      simp only [rowsL, List.length_append]; omega
    · have : m = n + 1 := by omega
      subst this; exact Nat.le_refl _
theorem Lay.count {w : World} {b gl gr gf nr room : Nat} {R : Nat → List Nat} {V : Nat → Int} (h : Lay w b gl gr gf nr room R V) : (rowsL R nr).length ≤ room := by
  obtain ⟨k, hk, _⟩ := h_free w b gl gr gf nr room R V h
  omega
/-- What holds ahead of each row: so many rows are done as ranges have left their marks. -/
structure LinkR (w : World) (b gl gr gf nr room : Nat) (R : Nat → List Nat) (V : Nat → Int) (B8 G : Nat) (Ds : List Nat) (Bx : Nat) (W : World) : Prop where
  lay : Lay W b gl gr gf nr room R V
  only : Only (fun _ => False) w W
  c4 : Cell W w.heap.size 0 (.int .i64 room)
  c6 : Cell W (w.heap.size + 1) 0 (.bool false)
  c8 : Cell W B8 0 (.pointer (some ⟨b, 0, none⟩))
  c11 : Cell W (G + 1) 0 (.slice (some ⟨G, 0, none⟩) room room)
  c12 : Cell W (G + 1 + 1) 0 (.int .i64 (rowsL R Ds.length).length)
  c13 : Cell W Bx 0 (.int .i64 Ds.length)
  csn : ∀ k, k < room → Cell W G k (.bool (decide (k ∈ rowsL R Ds.length)))
  gx : G + 3 ≤ Bx
  nd : Ds.Nodup
  dd : ∀ D ∈ Ds, W.heap[D]? = some (.deferred (some []))
  low : ∀ D ∈ Ds, G + 4 ≤ D
  le : Ds.length ≤ nr
/-- The function's slots ahead of each row. -/
def mkA (nr p B8 G Bx : Nat) (u : Nat → Value) (Ds : List Nat) : Act := ⟨#[.int .i64 nr, u 1, u 2, u 3, .pointer (some ⟨p, 0, none⟩), u 5, .pointer (some ⟨p + 1, 0, none⟩), .bool true, .pointer (some ⟨B8, 0, none⟩), u 9, u 10, .pointer (some ⟨G + 1, 0, none⟩), .pointer (some ⟨G + 1 + 1, 0, none⟩), .pointer (some ⟨Bx, 0, none⟩), u 14, u 15, u 16, u 17, u 18, u 19, u 20, u 21, u 22, u 23, u 24, u 25, u 26, u 27, u 28, u 29, u 30, u 31, u 32, u 33, u 34, u 35, u 36, u 37, u 38, u 39, u 40, u 41, u 42, u 43, u 44, u 45, u 46, u 47, u 48, u 49, u 50, u 51, u 52, u 53, u 54, u 55, u 56, u 57, u 58, u 59, u 60, u 61, u 62, u 63, u 64, u 65, u 66, u 67, u 68, u 69, u 70, u 71, u 72, u 73, u 74, u 75, u 76, u 77, u 78, u 79, u 80, u 81, u 82, u 83, u 84, u 85, u 86, u 87, u 88, u 89, u 90, u 91, u 92, u 93, u 94, u 95, u 96, u 97, u 98, u 99, u 100, u 101, u 102, u 103, u 104, u 105, u 106, u 107, u 108, u 109, u 110, u 111, u 112, u 113, u 114, u 115, u 116, u 117, u 118, u 119, u 120, u 121, u 122, u 123, u 124, u 125, u 126, u 127, u 128, u 129, u 130, u 131, u 132, u 133, u 134, u 135, u 136, u 137, u 138, u 139, u 140, u 141, u 142, u 143, u 144, u 145, u 146, u 147, u 148, u 149, u 150, u 151, u 152, u 153, u 154, u 155, u 156, u 157, u 158, u 159, u 160, u 161, u 162, u 163, u 164, u 165, u 166, u 167, u 168, u 169, u 170, u 171, u 172, u 173, u 174, u 175, u 176, u 177, u 178, u 179, u 180, u 181, u 182, u 183, u 184, u 185], marks Ds⟩
def mkB (nr p B8 G Bx At b r : Nat) (top : Int) (long : Nat) (u : Nat → Value) (x : Item) : Act := ⟨#[.int .i64 nr, u 1, u 2, u 3, .pointer (some ⟨p, 0, none⟩), u 5, .pointer (some ⟨p + 1, 0, none⟩), .bool true, .pointer (some ⟨B8, 0, none⟩), u 9, u 10, .pointer (some ⟨G + 1, 0, none⟩), .pointer (some ⟨G + 1 + 1, 0, none⟩), .pointer (some ⟨Bx, 0, none⟩), .pointer (some ⟨At, 0, none⟩), .pointer (some ⟨At + 1, 0, none⟩), .int .i64 x.1, .int .i64 x.2, u 18, u 19, u 20, u 21, u 22, u 23, u 24, u 25, u 26, u 27, u 28, u 29, u 30, u 31, u 32, u 33, u 34, u 35, u 36, u 37, u 38, u 39, u 40, u 41, u 42, u 43, u 44, u 45, u 46, u 47, u 48, u 49, u 50, u 51, u 52, u 53, u 54, u 55, u 56, u 57, u 58, u 59, u 60, u 61, u 62, u 63, u 64, u 65, u 66, u 67, u 68, u 69, u 70, u 71, u 72, u 73, u 74, u 75, u 76, u 77, u 78, u 79, u 80, u 81, u 82, u 83, u 84, u 85, u 86, u 87, u 88, u 89, u 90, u 91, u 92, u 93, u 94, u 95, u 96, u 97, u 98, u 99, u 100, u 101, u 102, u 103, .int .i64 r, .int .i64 nr, .bool true, u 107, u 108, .pointer (some ⟨b, 0, none⟩), .int .i64 r, .int .i64 top, .pointer (some ⟨b, 0, none⟩), .int .i64 r, .int .i64 (long : Nat), .pointer (some ⟨b, 0, none⟩), .int .i64 r, .func (.func 118) #[] #[.pointer (some ⟨At + 1 + 1, 0, none⟩), .pointer (some ⟨At + 1 + 1 + 1, 0, none⟩)], .int .i64 x.1, .int .i64 x.2, u 120, u 121, u 122, u 123, u 124, u 125, u 126, u 127, u 128, u 129, u 130, u 131, u 132, u 133, u 134, u 135, u 136, u 137, u 138, u 139, u 140, u 141, u 142, u 143, u 144, u 145, u 146, u 147, u 148, u 149, u 150, u 151, u 152, u 153, u 154, u 155, u 156, u 157, u 158, u 159, u 160, u 161, u 162, u 163, u 164, u 165, u 166, u 167, u 168, u 169, u 170, u 171, u 172, u 173, u 174, u 175, u 176, u 177, u 178, u 179, u 180, u 181, u 182, u 183, u 184, u 185], []⟩
def LinkI (w : World) (b gl gr gf nr room : Nat) (R : Nat → List Nat) (V : Nat → Int) (B8 G : Nat) (a : Act) (W : World) : Prop :=
  ∃ (Ds : List Nat) (Bx : Nat) (u : Nat → Value), LinkR w b gl gr gf nr room R V B8 G Ds Bx W ∧ a = mkA nr w.heap.size B8 G Bx u Ds
theorem LinkI.of {w : World} {b gl gr gf nr room : Nat} {R : Nat → List Nat} {V : Nat → Int} {B8 G : Nat} {a : Act} {W : World} (Ds : List Nat) (Bx : Nat) (h : LinkR w b gl gr gf nr room R V B8 G Ds Bx W) (e : a = mkA nr w.heap.size B8 G Bx (fun i => a.tmps.toList.getD i undef) Ds) : LinkI w b gl gr gf nr room R V B8 G a W := ⟨Ds, Bx, _, h, e⟩

theorem LinkR.next {w : World} {b gl gr gf nr room : Nat} {R : Nat → List Nat} {V : Nat → Int} {B8 G : Nat} {Ds : List Nat} {Bx : Nat} {W : World} (h : LinkR w b gl gr gf nr room R V B8 G Ds Bx W) (hr : Ds.length < nr) {W' W6 : World} {D Bx' : Nat}
    (ho : Only (fun i => i = G + 1 + 1 ∨ i = G ∨ i = w.heap.size + 1) W W') (csm : Cell W' (G + 1 + 1) 0 (.int .i64 (rowsL R (Ds.length + 1)).length)) (csn : ∀ k, k < room → Cell W' G k (.bool (decide (k ∈ rowsL R (Ds.length + 1)))))
    (crs : Cell W' (w.heap.size + 1) 0 (.bool false)) (hD : W.heap.size ≤ D) (hK : W'.heap[D]? = some (.deferred (some []))) (o6 : Only (fun _ => False) W' W6) (c13 : Cell W6 Bx' 0 (.int .i64 (Ds.length + 1 : Nat))) (hBx : W.heap.size ≤ Bx')
    (hG : w.heap.size + 1 < G) (hB : B8 < G ∧ B8 ≠ w.heap.size + 1) (hb : ∀ i, Blk4 b gl gr gf i → i < G ∧ i ≠ w.heap.size + 1) : LinkR w b gl gr gf nr room R V B8 G (D :: Ds) Bx' W6 := by
  have hx := h.c13.lt
  have hgx := h.gx
  have hl : ∀ E ∈ Ds, E < W.heap.size := fun E hE => (Array.getElem?_eq_some_iff.1 (h.dd E hE)).1
  have far : ∀ {c o : Nat} {v : Value}, Cell W c o v → c ≠ G + 1 + 1 → c ≠ G → c ≠ w.heap.size + 1 → Cell W6 c o v := fun {c o v} hc h1 h2 h3 => (hc.only ho (by show ¬ (_ ∨ _ ∨ _); omega)).only o6 id
  refine ⟨(h.lay.keep ho (fun i hi => by have := hb i hi; show ¬ (_ ∨ _ ∨ _); omega)).keep o6 (fun _ _ => id), (h.only.trans' ho (fun i hi ht => by have : i = G + 1 + 1 ∨ i = G ∨ i = w.heap.size + 1 := ht; omega)).then0 o6,
    far h.c4 (by omega) (by omega) (by omega), crs.only o6 id, far h.c8 (by omega) (by omega) (by omega), far h.c11 (by omega) (by omega) (by omega), csm.only o6 id, c13, fun k hk => (csn k hk).only o6 id, by omega,
    List.nodup_cons.2 ⟨fun hm => by have := hl D hm; omega, h.nd⟩, fun E hE => ?_, fun E hE => ?_, by simp only [List.length_cons]; omega⟩
  · rcases List.mem_cons.1 hE with e | e
    · subst e
      exact (o6.block _ (Array.getElem?_eq_some_iff.1 hK).1 id).trans hK
    · have h1 := h.low E e
      have h2 := hl E e
      exact (o6.block E (Nat.lt_of_lt_of_le h2 ho.size) id).trans ((ho.block E h2 (by show ¬ (_ ∨ _ ∨ _); omega)).trans (h.dd E e))
  · rcases List.mem_cons.1 hE with e | e
    · subst e; omega
    · exact h.low E e

set_option maxHeartbeats 8000000 in
set_option maxRecDepth 100000 in
theorem slotsLinks_yes (w : World) (x0 x1 : Int) (wf0 : (Lit.int .i64 x0).wf = true) (wf1 : (Lit.int .i64 x1).wf = true) (a : Option Addr) (len cap : Nat) (rows : List (List Value)) (hs : SliceIn w a len cap [.i .i64, .i .i64, .i .i64, .i .i64] rows) (hlen : len * 32 ≤ 140737488351232) :
    Calls Try.prog 12 #[.int .i64 x0, .int .i64 x1, .slice a len cap] w fun e w' => e = .returned (.bool true) ∧ Only (fun _ => False) w w' := by
  have b0 := bounds_i64 wf0
  have b1 := bounds_i64 wf1
  refine callsIn_wide.1 (callsIn_of_wp_marks (n := 8) Try.func12 rfl trivial (wpIn_wide.2 ?_) rfl)
  simp only [Try.ntmps12, List.size_toArray, List.length_cons, List.length_nil, Nat.reduceAdd, Nat.reduceSub, Array.replicate_succ, Array.replicate_zero, List.push_toArray, List.append_toArray, List.nil_append, List.cons_append]
  go_upto_if 24 with (refine (works_walk _).mono ?_; rintro e w1 ⟨rfl, o1⟩)
  have c4 : Cell w1 w.heap.size 0 (.int .i64 x1) := ((Cell.new (w := w) (cs := #[.int .i64 x1]) (o := 0) rfl).alloc _).only o1 id
  have c6 : Cell w1 (w.heap.size + 1) 0 (.bool false) := by
    have h := (Cell.new (w := w.alloc (.cells #[.int .i64 x1] 3)) (cs := #[.bool false]) (t := 4) (o := 0) rfl)
    rw [World.size_alloc] at h
    exact h.only o1 id
  have p1 : Only (fun _ => False) w w1 := (((Only.refl _ w).alloc _).alloc _).then0 o1
  clear o1
  have z1 := c6.lt
  go_cut [0] from 24 to 27 (fun s0 wc => ∃ y : Nat, y ≤ 9223372036854775807 ∧ s0 = .int .i64 y ∧ w1 = wc)
  case first =>
    by_cases h0 : x0 < 0
    · have e1 : decide (x0 < 0) = true := by simpa using h0
      go_wp2_with fail
      go_meet
      exact ⟨(-(x0 + 1)).toNat, by omega, by rw [Int.toNat_of_nonneg (by omega)], rfl⟩
    · have e1 : decide (x0 < 0) = false := by simpa using h0
      go_wp2_with fail
      go_meet
      exact ⟨x0.toNat, by omega, by rw [Int.toNat_of_nonneg (by omega)], rfl⟩
  case rest =>
    obtain ⟨y0, hy0, rfl, rfl⟩ := hcut
    have g4 := c4.cell
    have g4' := c4.free
    go_upto_if 29 with fail
    go_cut [] from 29 to 32 (fun wc => ∃ y : Nat, y ≤ 9223372036854775807 ∧ Only (fun _ => False) w wc ∧ w1.heap.size ≤ wc.heap.size ∧ Cell wc w.heap.size 0 (.int .i64 y) ∧ Cell wc (w.heap.size + 1) 0 (.bool false))
    case first =>
      by_cases h0 : x1 < 0
      · have e1 : decide (x1 < 0) = true := by simpa using h0
        go_wp2_with fail
        go_meet
        refine ⟨(-(x1 + 1)).toNat, by omega, p1.setCell (.inr (Nat.le_refl _)) _, by simp, ?_, c6.far (blk_ne (by omega)) _⟩
        rw [Int.toNat_of_nonneg (by omega)]
        exact c4.set _
      · have e1 : decide (x1 < 0) = false := by simpa using h0
        go_wp2_with fail
        go_meet
        exact ⟨x1.toNat, by omega, p1, by simp, by rw [Int.toNat_of_nonneg (by omega)]; exact c4, c6⟩
    case rest =>
      clear g4 g4'
      obtain ⟨y1, hy1, p2, z2, d4, d6⟩ := hcut
      clear c4 c6 p1 b0 b1 wf0 wf1
      have g4 := d4.cell
      have g4' := d4.free
      obtain ⟨nr, hnr⟩ : ∃ nr : Nat, nr = 1 + y0 % 20 := ⟨_, rfl⟩
      obtain ⟨room, hroom⟩ : ∃ room : Nat, room = y1 % 200 := ⟨_, rfl⟩
      have e0 : 1 + (y0 : Int) % 20 = (nr : Int) := by omega
      have e1 : (y1 : Int) % 200 = (room : Int) := by omega
      have S0 := fun W : World => Lib.hid (h_new W nr room (by omega) (by omega) (by omega))
      have HE0 := Lib.hid e0
      have HE1 := Lib.hid e1
      have HNR := Lib.hid hnr
      have HRM := Lib.hid hroom
      clear hnr hroom e0 e1
      go_wp2_with fail
      rw [HE0.out, HE1.out]
      refine (S0 _).out.mono ?_
      rintro e w3 ⟨b, gl, gr, gf, rfl, L3, o3, k1, k2, k3, k4⟩
      simp only [World.size_setCell] at k1 k2 k3 k4
      have hblk := L3.blk
      have f4 := (d4.set (.int .i64 room)).only o3 id
      have f6 := (d6.far (blk_ne (by omega)) (.int .i64 room)).only o3 id
      have p3 : Only (fun _ => False) w w3 := (p2.setCell (.inr (Nat.le_refl _)) _).then0 o3
      have z3 := f6.lt
      clear d4 d6 g4 g4' o3 S0 p2
      have hGn : ∀ i, Blk4 b gl gr gf i → i ≠ w.heap.size ∧ i ≠ w.heap.size + 1 ∧ i ≠ w3.heap.size := fun i hi => by
        have h1 := hblk i hi
        unfold Blk4 at hi
        omega
      have q1 : w.heap.size ≤ b := by omega
      have q2 : w.heap.size ≤ gl := by omega
      have q3 : w.heap.size ≤ gr := by omega
      have q4 : w.heap.size ≤ gf := by omega
      have L4 := Lib.hid (fun o => L3.keep ((Only.refl (fun _ => False) w3).alloc o) (fun _ _ => id))
      have C8 := Lib.hid (Cell.new (w := w3) (cs := #[.pointer (some ⟨b, 0, none⟩)]) (t := 59) (o := 0) rfl)
      have F4 := Lib.hid (fun o => f4.alloc o)
      have F6 := Lib.hid (fun o => f6.alloc o)
      clear L3 f4 f6 k1 k2 k3 k4 hblk
      go_wp2_with fail
      go_loopw [10] (fun s wr => ∃ k : Nat, k ≤ len ∧ s = .int .i64 k ∧ Some4 wr b gl gr gf nr room ∧ Only (fun _ => False) w wr ∧ Cell wr w.heap.size 0 (.int .i64 room) ∧ Cell wr (w.heap.size + 1) 0 (.bool false) ∧ Cell wr w3.heap.size 0 (.pointer (some ⟨b, 0, none⟩)))
        (fun s _ => len - (intOf s).toNat)
      case atStart => exact ⟨0, by omega, rfl, ⟨_, _, L4.out _⟩, by repeat' (first | (with_reducible exact Only.refl _ _) | (with_reducible assumption) | (refine Only.of_none ?_; with_reducible assumption) | (with_reducible refine Only.drewN ?_ _) | (with_reducible refine Only.drew ?_) | (with_reducible refine Only.alloc ?_ _) | (with_reducible refine Only.setCell ?_ ?_ _) | (with_reducible refine Only.then0 ?_ (by with_reducible assumption)) | (with_reducible refine Only.thenN ?_ (by with_reducible assumption) ?_) | (with_reducible refine Only.trans ?_ (by with_reducible assumption)) | (refine .inl ?_; first | rfl | (simp; done) | (simp [Ar.blk]; done)) | (refine .inr ?_; first | omega | (simp; done) | (simp; omega) | exact Only.size (by with_reducible assumption) | (refine Nat.le_trans (Only.size (by with_reducible assumption)) ?_; simp; done))), F4.out _, F6.out _, C8.out⟩
      case round =>
        clear L4 C8 F4 F6 p3
        obtain ⟨k, hk, rfl, hA, ho, f4, f6, f8⟩ := hrel
        by_cases hlt : k < len
        · obtain ⟨B, off, ha, hB, hcell⟩ := hs.at_ (by omega) (by decide)
          subst ha
          obtain ⟨r, hr⟩ : ∃ r, rows[k]? = some r := ⟨_, List.getElem?_eq_getElem (by rw [hs.1]; exact hlt)⟩
          obtain ⟨kind, _, rfl, hw0, hf⟩ := fits_i (hs.2.1 r (List.mem_of_getElem? hr))
          obtain ⟨row, _, rfl, hw1, hf⟩ := fits_i hf
          obtain ⟨num, _, rfl, hw2, hf⟩ := fits_i hf
          obtain ⟨v, _, rfl, hw3, hf⟩ := fits_i hf
          obtain rfl := fits_nil hf
          have r0 := ho.cell (hcell k _ hr 0 _ rfl) id
          have r1 := ho.cell (hcell k _ hr 1 _ rfl) id
          have r2 := ho.cell (hcell k _ hr 2 _ rfl) id
          have r3 := ho.cell (hcell k _ hr 3 _ rfl) id
          simp only [List.length_cons, List.length_nil, Nat.zero_add, Nat.reduceAdd, Nat.add_zero] at r0 r1 r2 r3
          have hbr : B < wr.heap.size := Nat.lt_of_lt_of_le hB ho.size
          clear hcell hf hr
          have g8 := f8.cell
          have z8 := f8.lt
          have HA := Lib.hid hA
          clear hA
          go_wp2_with fail
          · go_still_tail 11, (by kernel_rfl)
            change wpList _ _ _ _ _ wr.drew
            have HA2 := Lib.hid (HA.out.keep ((Only.refl _ wr).drew))
            go_wp2_with (go_at_call 40; refine (any_push _ b gl gr gf nr room HA2.out row v).mono ?_; intro e wx hx; obtain ⟨xx, yy, rfl, hA5, o5⟩ := hx)
            go_roundw
            case rel => exact ⟨k + 1, by omega, by go_num, hA5, ho.drew.thenB o5 q1 q2 q3 q4, f4.drew.only o5 (fun hi => (hGn _ hi).1 rfl), f6.drew.only o5 (fun hi => (hGn _ hi).2.1 rfl), f8.drew.only o5 (fun hi => (hGn _ hi).2.2 rfl)⟩
            case measure => simp [intOf]; omega
          · go_still_tail 11, (by kernel_rfl)
            change wpList _ _ _ _ _ wr.drew
            have HA2 := Lib.hid (HA.out.keep ((Only.refl _ wr).drew))
            go_wp2_with (go_at_call 40; refine (any_push _ b gl gr gf nr room HA2.out row v).mono ?_; intro e wx hx; obtain ⟨xx, yy, rfl, hA5, o5⟩ := hx)
            go_roundw
            case rel => exact ⟨k + 1, by omega, by go_num, hA5, ho.drew.thenB o5 q1 q2 q3 q4, f4.drew.only o5 (fun hi => (hGn _ hi).1 rfl), f6.drew.only o5 (fun hi => (hGn _ hi).2.1 rfl), f8.drew.only o5 (fun hi => (hGn _ hi).2.2 rfl)⟩
            case measure => simp [intOf]; omega
          · go_still_tail 6, (by kernel_rfl)
            change wpList _ _ _ _ _ wr.drew
            have HA2 := Lib.hid (HA.out.keep ((Only.refl _ wr).drew))
            go_wp2_with (go_at_call 41; refine (any_take _ b gl gr gf nr room HA2.out num).mono ?_; intro e wx hx; obtain ⟨xx, yy, rfl, hA5, o5⟩ := hx)
            go_roundw
            case rel => exact ⟨k + 1, by omega, by go_num, hA5, ho.drew.thenB o5 q1 q2 q3 q4, f4.drew.only o5 (fun hi => (hGn _ hi).1 rfl), f6.drew.only o5 (fun hi => (hGn _ hi).2.1 rfl), f8.drew.only o5 (fun hi => (hGn _ hi).2.2 rfl)⟩
            case measure => simp [intOf]; omega
          · go_still_tail 6, (by kernel_rfl)
            change wpList _ _ _ _ _ wr.drew
            have HA2 := Lib.hid (HA.out.keep ((Only.refl _ wr).drew))
            go_wp2_with (go_at_call 64; refine (any_clear _ b gl gr gf nr room HA2.out row).mono ?_; intro e wx hx; obtain ⟨xx, rfl, hA5, o5⟩ := hx)
            go_roundw
            case rel => exact ⟨k + 1, by omega, by go_num, hA5, ho.drew.thenB o5 q1 q2 q3 q4, f4.drew.only o5 (fun hi => (hGn _ hi).1 rfl), f6.drew.only o5 (fun hi => (hGn _ hi).2.1 rfl), f8.drew.only o5 (fun hi => (hGn _ hi).2.2 rfl)⟩
            case measure => simp [intOf]; omega
          · go_roundw
            case rel => exact ⟨k + 1, by omega, by go_num, HA.out, ho, f4, f6, f8⟩
            case measure => simp [intOf]; omega
          · go_roundw
            case rel => exact ⟨k + 1, by omega, by go_num, HA.out, ho, f4, f6, f8⟩
            case measure => simp [intOf]; omega
        · obtain ⟨i3, hi3, hz3, hs3, hb3⟩ := info_parts Try.infoBool2
          have hsm : room ≤ 65536 := by obtain ⟨R, V, hL⟩ := hA; exact hL.small.1
          have m3 := fun W => run_makeN (P := Try.prog) 62 4 i3 _ Try.underlying62 hi3 hz3 hs3 room (by rw [hb3]; omega) (by omega) W
          change ∀ W : World, _ = Result.ok _ (W.alloc (.cells (madeCells #[.bool false] (room * 1)) _)) at m3
          clear hi3 hz3 hs3 hb3
          have HA := Lib.hid hA
          clear hA
          have g4 := f4.cell
          have z4 := f4.lt
          go_wp2_with fail
          obtain ⟨R, V, hL⟩ := HA.out
          have hblk := hL.blk
          have z6 := f6.lt
          have z8 := f8.lt
          refine wp_loop (LinkI w b gl gr gf nr room R V w3.heap.size wr.heap.size) (fun a _ => nr - a.defers.length) ?_ ?_
          · refine LinkI.of [] (wr.heap.size + 3) ?_ ?_
            · have hz : ∀ o, Lay (((((wr.alloc o).alloc (.cells #[.slice (some ⟨wr.heap.size, 0, none⟩) room room] 62)).alloc (.cells #[.int .i64 0] 3)).alloc (.cells #[.int .i64 0] 3))) b gl gr gf nr room R V := fun o => hL.keep (((((Only.refl (fun _ => False) wr).alloc o).alloc _).alloc _).alloc _) (fun _ _ => id)
              have cG1 := fun o => Cell.new (w := wr.alloc o) (cs := #[.slice (some ⟨wr.heap.size, 0, none⟩) room room]) (t := 62) (o := 0) rfl
              have cG2 := fun o => Cell.new (w := (wr.alloc o).alloc (.cells #[.slice (some ⟨wr.heap.size, 0, none⟩) room room] 62)) (cs := #[.int .i64 0]) (t := 3) (o := 0) rfl
              have cG3 := fun o => Cell.new (w := ((wr.alloc o).alloc (.cells #[.slice (some ⟨wr.heap.size, 0, none⟩) room room] 62)).alloc (.cells #[.int .i64 0] 3)) (cs := #[.int .i64 0]) (t := 3) (o := 0) rfl
              simp only [World.size_alloc] at cG1 cG2 cG3
              refine ⟨hz _, (((ho.alloc _).alloc _).alloc _).alloc _, (((f4.alloc _).alloc _).alloc _).alloc _, (((f6.alloc _).alloc _).alloc _).alloc _, (((f8.alloc _).alloc _).alloc _).alloc _, ((cG1 _).alloc _).alloc _, (cG2 _).alloc _, cG3 _, fun k hk => (((Cell.new ?_).alloc _).alloc _).alloc _, by omega, List.nodup_nil, fun D hD => absurd hD (by simp), fun D hD => absurd hD (by simp), by simp⟩
              rw [show madeCells #[Value.bool false] room = (madeCells #[Value.bool false] room).toList.toArray by simp, toList_madeCells_one]
              simp [hk, rowsL]
            · kernel_rfl
          · clear HA hblk
            rintro a' W ⟨Ds, Bx, u, hI, rfl⟩
            have c4 := hI.c4.cell
            have c6 := hI.c6.cell
            have c6f := hI.c6.free
            have c8 := hI.c8.cell
            have c13 := hI.c13.cell
            have c13f := hI.c13.free
            have k13 := cell_lt c13
            have k8 := cell_lt c8
            obtain ⟨r, hr⟩ : ∃ r, r = Ds.length := ⟨_, rfl⟩
            rw [← hr] at c13
            have HR := Lib.hid hr
            have HI := Lib.hid hI
            clear hI hr
            by_cases hlt : r < nr
            · have t1 : decide (r < nr) = true := by simpa using hlt
              have HF := Lib.hid (h_first W b gl gr gf nr room R V HI.out.lay r hlt)
              have HN := fun o => Lib.hid (h_len (W.alloc o) b gl gr gf nr room R V (HI.out.lay.keep ((Only.refl (fun _ => False) W).alloc o) (fun _ _ => id)) r hlt)
              obtain ⟨L, hLr⟩ : ∃ L, L = R r := ⟨_, rfl⟩
              obtain ⟨top, htop⟩ : ∃ top, top = hdI L := ⟨_, rfl⟩
              obtain ⟨long, hlong⟩ : ∃ long, long = L.length := ⟨_, rfl⟩
              rw [← hLr, ← htop] at HF
              simp only [← hLr, ← hlong] at HN
              have HLR := Lib.hid hLr
              have HTOP := Lib.hid htop
              have HLONG := Lib.hid hlong
              clear hLr htop hlong
              dsimp only [mkA]
              go_wp2_with fail
              refine HF.out.mono ?_
              rintro e w5 ⟨rfl, rfl⟩
              clear HF
              go_wp2_with fail
              refine (HN _).out.mono ?_
              rintro e w5 ⟨rfl, rfl⟩
              clear HN
              go_wp2_with fail
              refine (s_all _ b r).mono ?_
              rintro e w5 ⟨rfl, rfl⟩
              go_wp2_with fail
              have cAt := (((Cell.new (w := W) (cs := #[.int .i64 top]) (t := 3) (o := 0) rfl).alloc (.cells #[.int .i64 (long : Nat)] 3)).alloc (.cells #[.pointer (some ⟨b, 0, none⟩)] 59)).alloc (.cells #[.int .i64 r] 3)
              have cLg := ((Cell.new (w := W.alloc (.cells #[.int .i64 top] 3)) (cs := #[.int .i64 (long : Nat)]) (t := 3) (o := 0) rfl).alloc (.cells #[.pointer (some ⟨b, 0, none⟩)] 59)).alloc (.cells #[.int .i64 r] 3)
              have cBa := (Cell.new (w := (W.alloc (.cells #[.int .i64 top] 3)).alloc (.cells #[.int .i64 (long : Nat)] 3)) (cs := #[.pointer (some ⟨b, 0, none⟩)]) (t := 59) (o := 0) rfl).alloc (.cells #[.int .i64 r] 3)
              have cBr := Cell.new (w := ((W.alloc (.cells #[.int .i64 top] 3)).alloc (.cells #[.int .i64 (long : Nat)] 3)).alloc (.cells #[.pointer (some ⟨b, 0, none⟩)] 59)) (cs := #[.int .i64 r]) (t := 3) (o := 0) rfl
              have oWc := ((((Only.refl (fun _ => False) W).alloc (.cells #[.int .i64 top] 3)).alloc (.cells #[.int .i64 (long : Nat)] 3)).alloc (.cells #[.pointer (some ⟨b, 0, none⟩)] 59)).alloc (.cells #[.int .i64 r] 3)
              obtain ⟨Wc, hWc⟩ : ∃ Wc, (((W.alloc (.cells #[.int .i64 top] 3)).alloc (.cells #[.int .i64 (long : Nat)] 3)).alloc (.cells #[.pointer (some ⟨b, 0, none⟩)] 59)).alloc (.cells #[.int .i64 r] 3) = Wc := ⟨_, rfl⟩
              have sWc : Wc.heap.size = W.heap.size + 1 + 1 + 1 + 1 := by rw [← hWc]; simp only [World.size_alloc]
              simp only [World.size_alloc] at cLg cBa cBr
              rw [hWc] at cAt cLg cBa cBr oWc ⊢
              clear hWc
              have hI := HI.out
              have hGx := hI.gx
              have hle : wr.heap.size + 4 ≤ W.heap.size := by omega
              have LWc := hI.lay.keep oWc (fun _ _ => id)
              have hRb : ∀ i, Blk4 b gl gr gf i → i < wr.heap.size ∧ i ≠ w.heap.size + 1 := fun i hi => ⟨hL.blk i hi, (hGn i hi).2.1⟩
              refine (wpIn_wide (n := 8)).1 ?_
              refine wpIn_rangeFunc_ownG rfl (by decide) (gf := 118) (lb := #[.pointer (some ⟨W.heap.size + 1 + 1, 0, none⟩), .pointer (some ⟨W.heap.size + 1 + 1 + 1, 0, none⟩)]) rfl trivial (enters_of Try.func118 (by kernel_rfl) rfl)
                (all_stops 7 (by decide) Wc (W.heap.size + 1 + 1) (W.heap.size + 1 + 1 + 1) b gl gr gf nr room R V r L (by rw [HLR.out]; exact hI.lay.nd hlt) (.inr ⟨r, hlt, HLR.out.symm⟩)
                  (fun W' hW' => by have := h_first W' b gl gr gf nr room R V hW' r hlt; rw [← HLR.out] at this; exact this) cBa.cell cBr.cell LWc)
                KeepB.trans (KeepB.put (fun i hi => by
                  rcases hi with h | h
                  · exact LWc.blk i h
                  · rw [h]; exact cBa.lt)) (Below.refl _ _) (fun _ => rfl)
                (RowI Wc W.heap.size (W.heap.size + 1) (wr.heap.size + 1 + 1) wr.heap.size (w.heap.size + 1) L (rowsL R r) V room) (fun _ pre _ => ¬ pre <+: L.map fun n => (n, V n))
                (ownFrom_rowI (by omega) (by omega) (by omega) (by omega) (by omega)) (fun _ _ _ _ _ h _ _ => h) ?h0
                (mkB nr w.heap.size w3.heap.size wr.heap.size Bx W.heap.size b r top long u) ?assign ?body ?done ?stop
              case h0 =>
                have hs0 := hI.c12.only oWc id
                rw [← HR.out] at hs0
                refine ⟨List.nil_prefix, Only.refl _ _, ?_, ?_, ?_, fun k hk => ?_, (hI.c6.only oWc id)⟩
                · have := cAt; rw [HTOP.out] at this; exact this
                · have := cLg; rw [HLONG.out] at this; simpa using this
                · simpa using hs0
                · have := (hI.csn k hk).only oWc id; rw [← HR.out] at this; simpa using this
              case assign =>
                intro l x W' K hK
                dsimp only [mkB] at hK
                unfold encI
                gi_wp2
                exact hK
              case stop => exact fun D c pre W' _ h1 h2 _ => absurd h1 h2
              case body =>
                clear cAt cLg cBa cBr c4 c6 c6f c8 c13 c13f t1
                intro l pre x Wb hJ hlen2
                obtain ⟨l1, n, l2, hs, hl1, hp, hno⟩ := item_next hJ.pf hlen2
                have LWb := LWc.keep hJ.only (fun i hi => by have := hRb i hi; show ¬ (_ ∨ _ ∨ _ ∨ _ ∨ _); omega)
                have c4 := ((hI.c4.only oWc id).only hJ.only (by show ¬ (_ ∨ _ ∨ _ ∨ _ ∨ _); omega)).cell
                have c6 := hJ.crs.cell
                have c6f := hJ.crs.free
                have c8 := ((hI.c8.only oWc id).only hJ.only (by show ¬ (_ ∨ _ ∨ _ ∨ _ ∨ _); omega)).cell
                have c13 := ((hI.c13.only oWc id).only hJ.only (by show ¬ (_ ∨ _ ∨ _ ∨ _ ∨ _); omega)).cell
                rw [← HR.out] at c13
                have c11 := ((hI.c11.only oWc id).only hJ.only (by show ¬ (_ ∨ _ ∨ _ ∨ _ ∨ _); omega)).cell
                have cat := hJ.cat
                have ed : L.drop pre.length = n :: l2 := by rw [hs, ← hl1]; simp
                rw [ed] at cat
                change Cell Wb W.heap.size 0 (.int .i64 n) at cat
                obtain ⟨xn, xv⟩ := x
                have c14 := cat.cell
                have HCA := Lib.hid cat
                have HJ := Lib.hid hJ
                have HNO := Lib.hid hno
                have HP := Lib.hid hp
                have HS := Lib.hid hs
                have HL1 := Lib.hid hl1
                have HLW := Lib.hid LWb
                clear hJ hno hp hs hl1 LWb ed cat
                have hpl : pre.length < L.length := hlen2
                by_cases h1 : xn = n
                · subst h1
                  have hnL : xn ∈ R r := by rw [← HLR.out, HS.out]; simp
                  have hnr := hI.lay.lt hlt hnL
                  have hse : xn ∉ rowsL R r ++ L.take pre.length := by
                    intro hm
                    rcases List.mem_append.1 hm with h | h
                    · obtain ⟨r', hr', h'⟩ := mem_rowsL.1 h
                      have := hI.lay.other (by omega) hlt h' hnL
                      omega
                    · have hnd := hI.lay.nd hlt
                      rw [← HLR.out, HS.out] at hnd
                      rw [HS.out, ← HL1.out, List.take_left] at h
                      exact (List.nodup_append.1 hnd).2.2 xn h xn (by simp) rfl
                  have cs0 := HJ.out.csn xn hnr
                  rw [decide_eq_false hse] at cs0
                  have cse := cs0.cell
                  have csf := cs0.free
                  have t1 : (xn != xn) = false := by simp
                  have t2 : decide ((xn : Int) < 0) = false := by simp
                  have t3 : decide (room ≤ xn) = false := by simp; omega
                  have i2 : (0 : Int) ≤ (xn : Int) ∧ (xn : Int) < (room : Int) := by omega
                  have HW1 := Lib.hid (HLW.out.keep ((Only.refl (· = wr.heap.size) Wb).setCell (p := ⟨wr.heap.size, xn, none⟩) (.inl rfl) (.bool true)) (fun i hi e => by have := hRb i hi; omega))
                  have HG := Lib.hid (CallsIn.inRound l (callsIn_wide (n := 5).2 (h_get _ b gl gr gf nr room R V HW1.out r xn hlt hnL)))
                  have HRW := Lib.hid (CallsIn.inRound l (callsIn_wide (n := 5).2 (h_row _ b gl gr gf nr room R V HW1.out r xn hlt hnL)))
                  have HNX := Lib.hid (CallsIn.inRound l (callsIn_wide (n := 5).2 (h_next _ b gl gr gf nr room R V HW1.out r xn hlt l1 l2 (HLR.out.symm.trans HS.out))))
                  clear hnL hse cs0
                  by_cases h2 : xv = V xn
                  · subst h2
                    have t4 : (V xn != V xn) = false := by simp
                    have t5 : ((r : Int) != (r : Int)) = false := by simp
                    have hct := hI.lay.count
                    have hmo := rowsL_mono R (show r + 1 ≤ nr by omega)
                    have e9 : (rowsL R (r + 1)).length = (rowsL R r).length + L.length := by rw [HLR.out]; simp [rowsL]
                    have cSm := HJ.out.csm
                    have cLg := HJ.out.clg
                    obtain ⟨sv, hsv⟩ : ∃ sv : Int, sv = ((rowsL R r).length : Int) + pre.length := ⟨_, rfl⟩
                    obtain ⟨lv, hlv⟩ : ∃ lv : Int, lv = (L.length : Int) - pre.length := ⟨_, rfl⟩
                    rw [← hsv] at cSm
                    rw [← hlv] at cLg
                    have w1 : IntKind.i64.wrap (sv + 1) = sv + 1 := by rw [IntKind.wrap_i64]; omega
                    have w2 : IntKind.i64.wrap (lv - 1) = lv - 1 := by rw [IntKind.wrap_i64]; omega
                    have c12 := cSm.cell
                    have c12f := cSm.free
                    have c15 := cLg.cell
                    have c15f := cLg.free
                    have c14f := HCA.out.free
                    have HCS := Lib.hid cSm
                    have HCL := Lib.hid cLg
                    have HSV := Lib.hid hsv
                    have HLV := Lib.hid hlv
                    clear cSm cLg hsv hlv hct hmo e9
                    obtain ⟨nx, hnx⟩ : ∃ nx, nx = hdI l2 := ⟨_, rfl⟩
                    rw [← hnx] at HNX
                    have HNXE := Lib.hid hnx
                    clear hnx
                    dsimp only [mkB]
                    gi_wp2_with (first
                      | (refine ⟨trivial, ?_⟩; gi_at_call 67; refine HG.out.mono ?_; rintro e w6 ⟨rfl, rfl⟩)
                      | (refine ⟨trivial, ?_⟩; gi_at_call 68; refine HRW.out.mono ?_; rintro e w6 ⟨rfl, rfl⟩)
                      | (refine ⟨trivial, ?_⟩; gi_at_call 43; refine HNX.out.mono ?_; rintro e w6 ⟨rfl, rfl⟩))
                    have hO := ((((Only.refl (fun i => i = W.heap.size ∨ i = W.heap.size + 1 ∨ i = wr.heap.size + 1 + 1 ∨ i = wr.heap.size) Wb).setCell (p := ⟨wr.heap.size, xn, none⟩) (.inl (.inr (.inr (.inr rfl)))) (.bool true)).setCell (p := ⟨W.heap.size, 0, none⟩) (.inl (.inl rfl)) (.int .i64 nx)).setCell (p := ⟨wr.heap.size + 1 + 1, 0, none⟩) (.inl (.inr (.inr (.inl rfl)))) (.int .i64 (sv + 1))).setCell (p := ⟨W.heap.size + 1, 0, none⟩) (.inl (.inr (.inl rfl))) (.int .i64 (lv - 1))
                    refine ⟨keepsFrom_of_only hO (fun i e => by omega), KeepB.only hO (fun i hi => ?_), HJ.out.next HS.out HL1.out HP.out hO ?_ ?_ ?_ ?_ ?_ (by omega)⟩
                    · have hsz := HJ.out.only.size
                      rcases hi with h | h
                      · have := hRb i h
                        exact ⟨by omega, by show ¬ (_ ∨ _ ∨ _ ∨ _); omega⟩
                      · exact ⟨by omega, by show ¬ (_ ∨ _ ∨ _ ∨ _); omega⟩
                    · rw [← HNXE.out]; exact (((HCA.out.far (blk_ne (by omega)) _).set _).far (blk_ne (by omega)) _).far (blk_ne (by omega)) _
                    · rw [← HLV.out]; exact (((HCL.out.far (blk_ne (by omega)) _).far (blk_ne (by omega)) _).far (blk_ne (by omega)) _).set _
                    · rw [← HSV.out]; exact (((HCS.out.far (blk_ne (by omega)) _).far (blk_ne (by omega)) _).set _).far (blk_ne (by omega)) _
                    · exact ((((HJ.out.csn xn hnr).set _).far (blk_ne (by omega)) _).far (blk_ne (by omega)) _).far (blk_ne (by omega)) _
                    · intro k hk hkn
                      exact ((((HJ.out.csn k hk).far (off_ne (fun e => hkn e.symm)) _).far (blk_ne (by omega)) _).far (blk_ne (by omega)) _).far (blk_ne (by omega)) _
                  · have t4 : (V xn != xv) = true := by simp; exact fun e => h2 e.symm
                    dsimp only [mkB]
                    gi_wp2_with (first
                      | (refine ⟨trivial, ?_⟩; gi_at_call 67; refine HG.out.mono ?_; rintro e w6 ⟨rfl, rfl⟩)
                      | (refine ⟨trivial, ?_⟩; gi_at_call 68; refine HRW.out.mono ?_; rintro e w6 ⟨rfl, rfl⟩))
                    exact ⟨keepsFrom_of_only (T := fun i => i = wr.heap.size ∨ i = w.heap.size + 1) (((Only.refl (fun i => i = wr.heap.size ∨ i = w.heap.size + 1) Wb).setCell (p := ⟨wr.heap.size, xn, none⟩) (.inl (.inl rfl)) _).setCell (p := ⟨w.heap.size + 1, 0, none⟩) (.inl (.inr rfl)) _) (fun i e => by omega), HNO.out _ (fun e => h2 (by injection e))⟩
                · have t1 : ((xn : Int) != (n : Int)) = true := by simp; omega
                  have t2 : (xn != n) = true := by simpa using h1
                  have t3 : (xn == n) = false := by simpa using h1
                  dsimp only [mkB]
                  gi_wp2
                  exact ⟨keepsFrom_of_only (T := (· = w.heap.size + 1)) ((Only.refl (· = w.heap.size + 1) Wb).setCell (p := ⟨w.heap.size + 1, 0, none⟩) (.inl rfl) _) (fun i e => by omega), HNO.out _ (fun e => h1 (by injection e))⟩
              case done =>
                clear cAt cLg cBa cBr c4 c6 c6f c8 c13 c13f
                intro D xs W' hD hxs hJ hK
                subst hxs
                have hJo := hJ.only
                have c14 := hJ.cat.cell
                have c15 := hJ.clg.cell
                have cSm := hJ.csm
                have cSn := hJ.csn
                have crs := hJ.crs
                rw [List.length_map] at c14 c15 cSm cSn
                rw [List.drop_eq_nil_of_le (Nat.le_refl _)] at c14
                change W'.cell? _ = some (.int .i64 (-1)) at c14
                rw [show (L.length : Int) - (L.length : Int) = 0 by omega] at c15
                rw [List.take_of_length_le (Nat.le_refl _)] at cSn
                have c13 := ((hI.c13.only oWc id).only hJ.only (by show ¬ (_ ∨ _ ∨ _ ∨ _ ∨ _); omega)).cell
                rw [← HR.out] at c13
                have hsz := hJ.only.size
                have HJO := Lib.hid hJo
                have HSM := Lib.hid cSm
                have HSN := Lib.hid cSn
                have HRS := Lib.hid crs
                have w1 : IntKind.i64.wrap ((r : Int) + 1) = r + 1 := by have := HNR.out; rw [IntKind.wrap_i64]; omega
                clear hJ hJo cSm cSn crs
                go_wp2_with fail
                have hlt2 : Ds.length < nr := by rw [← HR.out]; exact hlt
                have e9 : rowsL R (Ds.length + 1) = rowsL R r ++ L := by rw [← HR.out, HLR.out]; rfl
                have hOW : Only (fun i => i = wr.heap.size + 1 + 1 ∨ i = wr.heap.size ∨ i = w.heap.size + 1) W W' := (Only.of_none oWc).trans' HJO.out (fun i hi ht => by
                  have h : i = W.heap.size ∨ i = W.heap.size + 1 ∨ i = wr.heap.size + 1 + 1 ∨ i = wr.heap.size ∨ i = w.heap.size + 1 := ht
                  show _ ∨ _ ∨ _
                  omega)
                refine ⟨LinkI.of (D :: Ds) W'.heap.size (hI.next hlt2 (W' := W') hOW ?_ ?_ HRS.out (by omega) hK ((Only.refl _ W').alloc _) ?_ (by omega) z6 ⟨z8, by omega⟩ hRb) (by kernel_rfl), ?_⟩
                · rw [e9, List.length_append]
                  have := HSM.out
                  rw [← Int.natCast_add] at this
                  exact this
                · rw [e9]; exact HSN.out
                · have := Cell.new (w := W') (cs := #[.int .i64 ((r : Int) + 1)]) (t := 3) (o := 0) rfl
                  rw [← HR.out, Int.natCast_add]; exact this
                · simp only [List.length_cons, marks, List.length_map]
                  rw [← HR.out]; omega
            · have t1 : decide (r < nr) = false := by simpa using hlt
              obtain ⟨k2, hk2, hfree⟩ := h_free W b gl gr gf nr room R V HI.out.lay
              have hrn : r = nr := by have := HI.out.le; rw [← HR.out] at this; omega
              have cs := HI.out.c12.cell
              rw [← HR.out, hrn] at cs
              obtain ⟨sm, hsm2⟩ : ∃ sm, sm = (rowsL R nr).length := ⟨_, rfl⟩
              rw [← hsm2] at cs hk2
              have hsm3 : sm + k2 = room := by omega
              have w1 : IntKind.i64.wrap ((sm : Int) + (k2 : Int)) = (room : Int) := by rw [IntKind.wrap_i64]; omega
              have HF := Lib.hid hfree
              clear hfree hsm2 hk2 hrn
              dsimp only [mkA]
              go_wp2_with fail
              refine HF.out.mono ?_
              rintro e w5 ⟨rfl, rfl⟩
              clear HF
              go_wp2_with fail
              refine leaves_marks Ds _ HI.out.nd (fun D hD => ?_) (fun w' ho' => ?_)
              · have h1 := HI.out.low D hD
                rw [Below.heap_setCell _ _ _ _ (by show D ≠ w.heap.size + 1; omega)]
                exact HI.out.dd D hD
              · have hc := (HI.out.c6.set (.bool true)).only ho' (fun hD => by have := HI.out.low _ hD; omega)
                have hc := hc.cell
                refine ⟨.bool true, ?_, rfl, ?_⟩
                · simp [results, Try.f12, go_sem, hc]
                · exact (HI.out.only.setCell (.inr (by show w.heap.size ≤ w.heap.size + 1; omega)) _).trans' ho' (fun i hi hD => by have := HI.out.low _ hD; omega)

theorem slotsLinks_walk (w : World) (x0 : Int) (wf0 : (Lit.int .i64 x0).wf = true) (x1 : Int) (wf1 : (Lit.int .i64 x1).wf = true) (a : Option Addr) (len cap : Nat) (rows : List (List Value)) (hs : SliceIn w a len cap [.i .i64, .i .i64, .i .i64, .i .i64] rows) (hlen : len * 32 ≤ 140737488351232) :
    Calls Try.prog 12 #[.int .i64 x0, .int .i64 x1, .slice a len cap] w fun e w' => e = .returned (.bool true) ∧ Below w.heap.size w w' :=
  (slotsLinks_yes w x0 x1 wf0 wf1 a len cap rows hs hlen).mono fun _ _ ⟨he, ho⟩ => ⟨he, ho.below⟩
end Go.Proofs.Ytiiflgihjnlmcaa
