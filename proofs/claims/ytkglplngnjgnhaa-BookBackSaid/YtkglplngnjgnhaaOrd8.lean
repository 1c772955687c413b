/- Slots: New, walked. No condition. -/
import Derived.Test.YtkglplngnjgnhaaOrd7
import Derived.Laws.MakeOwn
import Derived.Laws.OwnMore
namespace Go.Proofs.Ytkglplngnjgnhaa
set_option linter.unusedVariables false
set_option linter.unusedSimpArgs false
namespace Od
open Go.RowKit

--<shared>
theorem run_makeN {P : Program} (t e : TypeId) (i : TypeInfo) (z : Value) (ht : P.underlying t = some (.slice e)) (hi : P.info? e = some i) (hz : i.zero = some z) {s : Nat} (hs : i.size = s)
    (n : Nat) (hbytes : i.bytes * n ≤ 281474976710656) (h63 : n ≤ 9223372036854775807) (w : World) :
    (Instr.makeSlice t (.int .i64 (n : Int)) (.int .i64 (n : Int))).run P w = .ok (.slice (some ⟨w.heap.size, 0, none⟩) n n) (w.alloc (.cells (madeCells z.cells (n * s)) e)) := by
  have hb : (i.bytes : Int) * (n : Int) ≤ 281474976710656 := by
    have h : ((i.bytes * n : Nat) : Int) ≤ 281474976710656 := by omega
    rwa [Int.natCast_mul] at h
  have hr := run_make (P := P) w t e i z ht hi hz .i64 .i64 n n (by omega) (by omega) hb (by omega)
  simp only [Int.toNat_natCast, hs] at hr
  exact hr

theorem hp_new {w : World} {o : Obj} {k : Nat} (h : k = w.heap.size) : (w.alloc o).heap[k]? = some o := by subst h; exact heap_alloc_new w o
theorem hp_old {w : World} {x : Obj} {k : Nat} (h : w.heap[k]? = some x) (o : Obj) : (w.alloc o).heap[k]? = some x := (Below.heap_alloc w o k (Array.getElem?_eq_some_iff.1 h).1).trans h
theorem hp_drew {w : World} {x : Obj} {k : Nat} (h : w.heap[k]? = some x) : w.drew.heap[k]? = some x := h
theorem hp_drewN {w : World} {x : Obj} {k : Nat} (h : w.heap[k]? = some x) (n : Nat) : (w.drewN n).heap[k]? = some x := h

theorem made_at {z : Array Value} {s n i j : Nat} {v : Value} (hs : z.size = s) (hi : i < n) (hj : z[j]? = some v) : (madeCells z (n * s)).toList[i * s + j]? = some v := by
  have hjs : j < s := by rw [← hs]; exact (Array.getElem?_eq_some_iff.1 hj).1
  have hlt : i * s + j < n * s := by
    have : (i + 1) * s ≤ n * s := Nat.mul_le_mul_right _ hi
    rw [Nat.add_mul] at this; omega
  have hm : (i * s + j) % s = j := by rw [Nat.mul_comm, Nat.mul_add_mod]; exact Nat.mod_eq_of_lt hjs
  have e1 : z[(i * s + j) % z.size]! = v := by
    rw [hs, hm, getElem!_def, hj]
  simp only [madeCells, Array.toList_map, List.getElem?_map, Array.toList_range, List.getElem?_range hlt, Option.map_some, e1]

/-- A new arena. -/
def Ar.init (gl gr gf nr room : Nat) (z : Value) : Ar := ⟨gl, gr, gf, room, nr, room, fun _ => z, fun _ => -1, fun _ => 0, fun _ => 0, fun _ => -1, fun _ => -1, fun _ => 0, fun i => i⟩

--</shared>
theorem Try.infoLink : (Try.prog.info? 168).map (fun i => (i.zero, i.size, i.bytes)) = some (some (.agg #[.int .i64 0, .int .i64 0, .int .u8 0, .int .i64 0, .int .i64 0, .int .i64 0, .int .i64 0, .int .i64 0]), 8, 64) := by kernel_rfl
--<shared>
theorem Try.infoRow : (Try.prog.info? 170).map (fun i => (i.zero, i.size, i.bytes)) = some (some (.agg #[.int .i64 0, .int .i64 0, .int .i64 0]), 3, 24) := by kernel_rfl
--</shared>
def zLink : Array Value := #[.int .i64 0, .int .i64 0, .int .u8 0, .int .i64 0, .int .i64 0, .int .i64 0, .int .i64 0, .int .i64 0]
--<shared>
def zRow : Array Value := #[.int .i64 0, .int .i64 0, .int .i64 0]
def zInt : Array Value := #[.int .i64 0]
--</shared>

/-- What lies there behind the three makes. -/
structure Made (w : World) (b gl gr gf nr room : Nat) : Prop where
  hb : w.heap[b]? = some (.cells #[.slice (some ⟨gl, 0, none⟩) room room, .slice (some ⟨gr, 0, none⟩) nr nr, .slice (some ⟨gf, 0, none⟩) room room] 166 (0, 0))
  hl : w.heap[gl]? = some (.cells (madeCells zLink (room * 8)) 168 (0, 0))
  hr : w.heap[gr]? = some (.cells (madeCells zRow (nr * 3)) 170 (0, 0))
  hf : w.heap[gf]? = some (.cells (madeCells zInt room) 3 (0, 0))
  ne : b ≠ gl ∧ b ≠ gr ∧ b ≠ gf ∧ gl ≠ gr ∧ gl ≠ gf ∧ gr ≠ gf

theorem Made.at_ {w : World} {b gl gr gf nr room : Nat} (h : Made w b gl gr gf nr room) (h1 : room ≤ 65536) (h2 : nr ≤ 65536) :
    ArAt w b ⟨gl, gr, gf, room, nr, room, fun _ => .agg #[.int .i64 0, .int .i64 0, .int .u8 0, .int .i64 0, .int .i64 0], fun _ => 0, fun _ => 0, fun _ => 0, fun _ => 0, fun _ => 0, fun _ => 0, fun _ => 0⟩ := by
  have hl := h.hl
  have hr := h.hr
  rw [show madeCells zLink (room * 8) = (madeCells zLink (room * 8)).toList.toArray by simp] at hl
  rw [show madeCells zRow (nr * 3) = (madeCells zRow (nr * 3)).toList.toArray by simp] at hr
  refine ⟨cell_of_blk (cs := [_, _, _]) h.hb rfl, cell_of_blk (cs := [_, _, _]) h.hb rfl, cell_of_blk (cs := [_, _, _]) h.hb rfl,
    fun i hi c u hu => cell_of_blk hl (made_at (s := 8) (j := c) rfl hi (by match c, hu with | 0, hu => exact hu | 1, hu => exact hu | 2, hu => exact hu | 3, hu => exact hu | 4, hu => exact hu | c + 5, hu => simp [Value.cells] at hu)), fun i hi => cell_of_blk hl (made_at (s := 8) (j := 5) rfl hi rfl), fun i hi => cell_of_blk hl (made_at (s := 8) (j := 6) rfl hi rfl), fun i hi => cell_of_blk hl (made_at (s := 8) (j := 7) rfl hi rfl),
    fun i hi => cell_of_blk hr (made_at (s := 3) (j := 0) rfl hi rfl), fun i hi => cell_of_blk hr (made_at (s := 3) (j := 1) rfl hi rfl), fun i hi => cell_of_blk hr (made_at (s := 3) (j := 2) rfl hi rfl), ?_,
    ⟨(Array.getElem?_eq_some_iff.1 h.hl).1, (Array.getElem?_eq_some_iff.1 h.hr).1⟩, h.ne.1, h.ne.2.1, h.ne.2.2.1, h.ne.2.2.2.1, h.ne.2.2.2.2.1, h.ne.2.2.2.2.2, ⟨h1, h2, Nat.le_refl _⟩, fun _ _ => rfl⟩
  have hf := h.hf
  rw [show madeCells zInt room = (madeCells zInt room).toList.toArray by simp, show zInt = #[Value.int .i64 0] from rfl, toList_madeCells_one] at hf
  rw [hf]
  congr 3
  apply List.ext_getElem?
  intro k
  by_cases hk : k < room <;> simp [freeV, hk]

--<shared>
/-- What lies beyond the room does not matter. -/
theorem ArAt.congr {w : World} {b gl gr gf room nr nf : Nat} {th : Nat → Value} {ro ro' ah fa rf rf' rl rl' rn fr fr' : Nat → Int} (h : ArAt w b ⟨gl, gr, gf, room, nr, nf, th, ro, ah, fa, rf, rl, rn, fr⟩)
    (h1 : ∀ i, i < room → ro i = ro' i) (h2 : ∀ i, i < nr → rf i = rf' i) (h3 : ∀ i, i < nr → rl i = rl' i) (h4 : ∀ i, i < room → fr i = fr' i) : ArAt w b ⟨gl, gr, gf, room, nr, nf, th, ro', ah, fa, rf', rl', rn, fr'⟩ := by
  refine ⟨h.c0, h.c1, h.c2, h.l0, fun i hi => by have := h.l1 i hi; simp only at this ⊢; rwa [h1 i hi] at this, h.l2, h.l3, fun i hi => by have := h.r0 i hi; simp only at this ⊢; rwa [h2 i hi] at this, fun i hi => by have := h.r1 i hi; simp only at this ⊢; rwa [h3 i hi] at this, h.r2, ?_, h.lr, h.n1, h.n2, h.n3, h.n4, h.n5, h.n6, h.small, h.tc⟩
  have := h.f
  simp only [freeV] at this ⊢
  rw [this]
  congr 3
  apply List.map_congr_left
  intro i hi
  rw [h4 i (by simpa using hi)]
--</shared>

set_option maxHeartbeats 4000000 in
set_option maxRecDepth 100000 in
theorem s_new_no (w : World) (rows room : Int) (h : rows < 1 ∨ rows > 65536 ∨ room < 0 ∨ room > 65536) :
    Calls Try.prog 54 #[.int .i64 rows, .int .i64 room] w fun e w' => e = .returned (.tuple #[.pointer none, .int .i64 1]) ∧ Only (fun _ => False) w w' := by
  by_cases h1 : rows < 1
  · clear h
    go_enter Try.func54, Try.ntmps54
    go_wp2
    go_returns
    exact ⟨rfl, by repeat' (first | (with_reducible exact Only.refl _ _) | (with_reducible assumption) | (refine Only.of_none ?_; with_reducible assumption) | (with_reducible refine Only.drewN ?_ _) | (with_reducible refine Only.drew ?_) | (with_reducible refine Only.alloc ?_ _) | (with_reducible refine Only.setCell ?_ ?_ _) | (with_reducible refine Only.then0 ?_ (by with_reducible assumption)) | (with_reducible refine Only.thenN ?_ (by with_reducible assumption) ?_) | (with_reducible refine Only.trans ?_ (by with_reducible assumption)) | (refine .inl ?_; first | rfl | (simp; done) | (simp [Ar.blk]; done)) | (refine .inr ?_; first | omega | (simp; done) | (simp; omega) | exact Only.size (by with_reducible assumption) | (refine Nat.le_trans (Only.size (by with_reducible assumption)) ?_; simp; done)))⟩
  · have e1 : decide (rows < 1) = false := by simpa using h1
    by_cases h2 : rows > 65536
    · clear h
      go_enter Try.func54, Try.ntmps54
      go_wp2
      go_returns
      exact ⟨rfl, by repeat' (first | (with_reducible exact Only.refl _ _) | (with_reducible assumption) | (refine Only.of_none ?_; with_reducible assumption) | (with_reducible refine Only.drewN ?_ _) | (with_reducible refine Only.drew ?_) | (with_reducible refine Only.alloc ?_ _) | (with_reducible refine Only.setCell ?_ ?_ _) | (with_reducible refine Only.then0 ?_ (by with_reducible assumption)) | (with_reducible refine Only.thenN ?_ (by with_reducible assumption) ?_) | (with_reducible refine Only.trans ?_ (by with_reducible assumption)) | (refine .inl ?_; first | rfl | (simp; done) | (simp [Ar.blk]; done)) | (refine .inr ?_; first | omega | (simp; done) | (simp; omega) | exact Only.size (by with_reducible assumption) | (refine Nat.le_trans (Only.size (by with_reducible assumption)) ?_; simp; done)))⟩
    · have e2 : decide (65536 < rows) = false := by simp; omega
      by_cases h3 : room < 0
      · clear h
        go_enter Try.func54, Try.ntmps54
        go_wp2
        go_returns
        exact ⟨rfl, by repeat' (first | (with_reducible exact Only.refl _ _) | (with_reducible assumption) | (refine Only.of_none ?_; with_reducible assumption) | (with_reducible refine Only.drewN ?_ _) | (with_reducible refine Only.drew ?_) | (with_reducible refine Only.alloc ?_ _) | (with_reducible refine Only.setCell ?_ ?_ _) | (with_reducible refine Only.then0 ?_ (by with_reducible assumption)) | (with_reducible refine Only.thenN ?_ (by with_reducible assumption) ?_) | (with_reducible refine Only.trans ?_ (by with_reducible assumption)) | (refine .inl ?_; first | rfl | (simp; done) | (simp [Ar.blk]; done)) | (refine .inr ?_; first | omega | (simp; done) | (simp; omega) | exact Only.size (by with_reducible assumption) | (refine Nat.le_trans (Only.size (by with_reducible assumption)) ?_; simp; done)))⟩
      · have e3 : decide (room < 0) = false := by simpa using h3
        have h4 : 65536 < room := by omega
        clear h
        go_enter Try.func54, Try.ntmps54
        go_wp2
        go_returns
        exact ⟨rfl, by repeat' (first | (with_reducible exact Only.refl _ _) | (with_reducible assumption) | (refine Only.of_none ?_; with_reducible assumption) | (with_reducible refine Only.drewN ?_ _) | (with_reducible refine Only.drew ?_) | (with_reducible refine Only.alloc ?_ _) | (with_reducible refine Only.setCell ?_ ?_ _) | (with_reducible refine Only.then0 ?_ (by with_reducible assumption)) | (with_reducible refine Only.thenN ?_ (by with_reducible assumption) ?_) | (with_reducible refine Only.trans ?_ (by with_reducible assumption)) | (refine .inl ?_; first | rfl | (simp; done) | (simp [Ar.blk]; done)) | (refine .inr ?_; first | omega | (simp; done) | (simp; omega) | exact Only.size (by with_reducible assumption) | (refine Nat.le_trans (Only.size (by with_reducible assumption)) ?_; simp; done)))⟩

def NewPost (w : World) (nr room : Nat) (e : Ending) (w' : World) : Prop :=
  ∃ b gl gr gf, e = .returned (.tuple #[.pointer (some ⟨b, 0, none⟩), .int .i64 0]) ∧ ArAt w' b (Ar.init gl gr gf nr room (.agg #[.int .i64 0, .int .i64 0, .int .u8 0, .int .i64 0, .int .i64 0])) ∧ Only (fun _ => False) w w' ∧ w.heap.size ≤ b ∧ w.heap.size ≤ gl ∧ w.heap.size ≤ gr ∧ w.heap.size ≤ gf

set_option maxHeartbeats 4000000 in
set_option maxRecDepth 100000 in
theorem s_new (w : World) (nr room : Nat) (h1 : 1 ≤ nr) (h2 : nr ≤ 65536) (h3 : room ≤ 65536) :
    Calls Try.prog 54 #[.int .i64 nr, .int .i64 room] w (NewPost w nr room) := by
  obtain ⟨i1, hi1, hz1, hs1, hb1⟩ := info_parts Try.infoLink
  obtain ⟨i2, hi2, hz2, hs2, hb2⟩ := info_parts Try.infoRow
  obtain ⟨i3, hi3, hz3, hs3, hb3⟩ := info_parts Try.infoInt
  have m1 := fun W => run_makeN (P := Try.prog) 162 168 i1 _ Try.underlying162 hi1 hz1 hs1 room (by rw [hb1]; omega) (by omega) W
  have m2 := fun W => run_makeN (P := Try.prog) 163 170 i2 _ Try.underlying163 hi2 hz2 hs2 nr (by rw [hb2]; omega) (by omega) W
  have m3 := fun W => run_makeN (P := Try.prog) 164 3 i3 _ Try.underlying164 hi3 hz3 hs3 room (by rw [hb3]; omega) (by omega) W
  change ∀ W : World, _ = Result.ok _ (W.alloc (.cells (madeCells zLink (room * 8)) _)) at m1
  change ∀ W : World, _ = Result.ok _ (W.alloc (.cells (madeCells zRow (nr * 3)) _)) at m2
  change ∀ W : World, _ = Result.ok _ (W.alloc (.cells (madeCells zInt (room * 1)) _)) at m3
  clear hi1 hz1 hs1 hb1 hi2 hz2 hs2 hb2 hi3 hz3 hs3 hb3
  have e1 : decide ((nr : Int) < 1) = false := by simp; omega
  have e2 : decide (65536 < (nr : Int)) = false := by simp; omega
  have e3 : decide ((room : Int) < 0) = false := by simp
  have e4 : decide (65536 < (room : Int)) = false := by simp; omega
  go_enter Try.func54, Try.ntmps54
  go_upto_region 3 with fail
  go_cut [6] (fun s6 wc => ∃ b gl gr gf, s6 = .pointer (some ⟨b, 0, none⟩) ∧ Made wc b gl gr gf nr room ∧ Only (fun _ => False) w wc ∧ w.heap.size ≤ b ∧ w.heap.size ≤ gl ∧ w.heap.size ≤ gr ∧ w.heap.size ≤ gf)
  case first =>
    go_region
    all_goals
      go_wp2_with fail
      go_meet
      first
        | (refine ⟨_, w.heap.size, (w.heap.size + 1), (w.heap.size + 1 + 1), rfl, ⟨?_, ?_, ?_, ?_, ?_⟩, ?_, ?_, ?_, ?_, ?_⟩; (repeat (first | exact hp_new (by simp; done) | (with_reducible refine hp_drew ?_) | (with_reducible refine hp_drewN ?_ _) | (with_reducible refine hp_old ?_ _))); (repeat (first | exact hp_new (by simp; done) | (with_reducible refine hp_drew ?_) | (with_reducible refine hp_drewN ?_ _) | (with_reducible refine hp_old ?_ _))); (repeat (first | exact hp_new (by simp; done) | (with_reducible refine hp_drew ?_) | (with_reducible refine hp_drewN ?_ _) | (with_reducible refine hp_old ?_ _))); (repeat (first | exact hp_new (by simp; done) | (with_reducible refine hp_drew ?_) | (with_reducible refine hp_drewN ?_ _) | (with_reducible refine hp_old ?_ _))); omega; (repeat' (first | (with_reducible exact Only.refl _ _) | (with_reducible assumption) | (refine Only.of_none ?_; with_reducible assumption) | (with_reducible refine Only.drewN ?_ _) | (with_reducible refine Only.drew ?_) | (with_reducible refine Only.alloc ?_ _) | (with_reducible refine Only.setCell ?_ ?_ _) | (with_reducible refine Only.then0 ?_ (by with_reducible assumption)) | (with_reducible refine Only.thenN ?_ (by with_reducible assumption) ?_) | (with_reducible refine Only.trans ?_ (by with_reducible assumption)) | (refine .inl ?_; first | rfl | (simp; done) | (simp [Ar.blk]; done)) | (refine .inr ?_; first | omega | (simp; done) | (simp; omega) | exact Only.size (by with_reducible assumption) | (refine Nat.le_trans (Only.size (by with_reducible assumption)) ?_; simp; done)))); all_goals (first | omega | (simp; done) | (simp; omega)); done)
        | (refine ⟨_, w.heap.size, (w.heap.size + 1 + 1), (w.heap.size + 1), rfl, ⟨?_, ?_, ?_, ?_, ?_⟩, ?_, ?_, ?_, ?_, ?_⟩; (repeat (first | exact hp_new (by simp; done) | (with_reducible refine hp_drew ?_) | (with_reducible refine hp_drewN ?_ _) | (with_reducible refine hp_old ?_ _))); (repeat (first | exact hp_new (by simp; done) | (with_reducible refine hp_drew ?_) | (with_reducible refine hp_drewN ?_ _) | (with_reducible refine hp_old ?_ _))); (repeat (first | exact hp_new (by simp; done) | (with_reducible refine hp_drew ?_) | (with_reducible refine hp_drewN ?_ _) | (with_reducible refine hp_old ?_ _))); (repeat (first | exact hp_new (by simp; done) | (with_reducible refine hp_drew ?_) | (with_reducible refine hp_drewN ?_ _) | (with_reducible refine hp_old ?_ _))); omega; (repeat' (first | (with_reducible exact Only.refl _ _) | (with_reducible assumption) | (refine Only.of_none ?_; with_reducible assumption) | (with_reducible refine Only.drewN ?_ _) | (with_reducible refine Only.drew ?_) | (with_reducible refine Only.alloc ?_ _) | (with_reducible refine Only.setCell ?_ ?_ _) | (with_reducible refine Only.then0 ?_ (by with_reducible assumption)) | (with_reducible refine Only.thenN ?_ (by with_reducible assumption) ?_) | (with_reducible refine Only.trans ?_ (by with_reducible assumption)) | (refine .inl ?_; first | rfl | (simp; done) | (simp [Ar.blk]; done)) | (refine .inr ?_; first | omega | (simp; done) | (simp; omega) | exact Only.size (by with_reducible assumption) | (refine Nat.le_trans (Only.size (by with_reducible assumption)) ?_; simp; done)))); all_goals (first | omega | (simp; done) | (simp; omega)); done)
        | (refine ⟨_, (w.heap.size + 1), w.heap.size, (w.heap.size + 1 + 1), rfl, ⟨?_, ?_, ?_, ?_, ?_⟩, ?_, ?_, ?_, ?_, ?_⟩; (repeat (first | exact hp_new (by simp; done) | (with_reducible refine hp_drew ?_) | (with_reducible refine hp_drewN ?_ _) | (with_reducible refine hp_old ?_ _))); (repeat (first | exact hp_new (by simp; done) | (with_reducible refine hp_drew ?_) | (with_reducible refine hp_drewN ?_ _) | (with_reducible refine hp_old ?_ _))); (repeat (first | exact hp_new (by simp; done) | (with_reducible refine hp_drew ?_) | (with_reducible refine hp_drewN ?_ _) | (with_reducible refine hp_old ?_ _))); (repeat (first | exact hp_new (by simp; done) | (with_reducible refine hp_drew ?_) | (with_reducible refine hp_drewN ?_ _) | (with_reducible refine hp_old ?_ _))); omega; (repeat' (first | (with_reducible exact Only.refl _ _) | (with_reducible assumption) | (refine Only.of_none ?_; with_reducible assumption) | (with_reducible refine Only.drewN ?_ _) | (with_reducible refine Only.drew ?_) | (with_reducible refine Only.alloc ?_ _) | (with_reducible refine Only.setCell ?_ ?_ _) | (with_reducible refine Only.then0 ?_ (by with_reducible assumption)) | (with_reducible refine Only.thenN ?_ (by with_reducible assumption) ?_) | (with_reducible refine Only.trans ?_ (by with_reducible assumption)) | (refine .inl ?_; first | rfl | (simp; done) | (simp [Ar.blk]; done)) | (refine .inr ?_; first | omega | (simp; done) | (simp; omega) | exact Only.size (by with_reducible assumption) | (refine Nat.le_trans (Only.size (by with_reducible assumption)) ?_; simp; done)))); all_goals (first | omega | (simp; done) | (simp; omega)); done)
        | (refine ⟨_, (w.heap.size + 1), (w.heap.size + 1 + 1), w.heap.size, rfl, ⟨?_, ?_, ?_, ?_, ?_⟩, ?_, ?_, ?_, ?_, ?_⟩; (repeat (first | exact hp_new (by simp; done) | (with_reducible refine hp_drew ?_) | (with_reducible refine hp_drewN ?_ _) | (with_reducible refine hp_old ?_ _))); (repeat (first | exact hp_new (by simp; done) | (with_reducible refine hp_drew ?_) | (with_reducible refine hp_drewN ?_ _) | (with_reducible refine hp_old ?_ _))); (repeat (first | exact hp_new (by simp; done) | (with_reducible refine hp_drew ?_) | (with_reducible refine hp_drewN ?_ _) | (with_reducible refine hp_old ?_ _))); (repeat (first | exact hp_new (by simp; done) | (with_reducible refine hp_drew ?_) | (with_reducible refine hp_drewN ?_ _) | (with_reducible refine hp_old ?_ _))); omega; (repeat' (first | (with_reducible exact Only.refl _ _) | (with_reducible assumption) | (refine Only.of_none ?_; with_reducible assumption) | (with_reducible refine Only.drewN ?_ _) | (with_reducible refine Only.drew ?_) | (with_reducible refine Only.alloc ?_ _) | (with_reducible refine Only.setCell ?_ ?_ _) | (with_reducible refine Only.then0 ?_ (by with_reducible assumption)) | (with_reducible refine Only.thenN ?_ (by with_reducible assumption) ?_) | (with_reducible refine Only.trans ?_ (by with_reducible assumption)) | (refine .inl ?_; first | rfl | (simp; done) | (simp [Ar.blk]; done)) | (refine .inr ?_; first | omega | (simp; done) | (simp; omega) | exact Only.size (by with_reducible assumption) | (refine Nat.le_trans (Only.size (by with_reducible assumption)) ?_; simp; done)))); all_goals (first | omega | (simp; done) | (simp; omega)); done)
        | (refine ⟨_, (w.heap.size + 1 + 1), w.heap.size, (w.heap.size + 1), rfl, ⟨?_, ?_, ?_, ?_, ?_⟩, ?_, ?_, ?_, ?_, ?_⟩; (repeat (first | exact hp_new (by simp; done) | (with_reducible refine hp_drew ?_) | (with_reducible refine hp_drewN ?_ _) | (with_reducible refine hp_old ?_ _))); (repeat (first | exact hp_new (by simp; done) | (with_reducible refine hp_drew ?_) | (with_reducible refine hp_drewN ?_ _) | (with_reducible refine hp_old ?_ _))); (repeat (first | exact hp_new (by simp; done) | (with_reducible refine hp_drew ?_) | (with_reducible refine hp_drewN ?_ _) | (with_reducible refine hp_old ?_ _))); (repeat (first | exact hp_new (by simp; done) | (with_reducible refine hp_drew ?_) | (with_reducible refine hp_drewN ?_ _) | (with_reducible refine hp_old ?_ _))); omega; (repeat' (first | (with_reducible exact Only.refl _ _) | (with_reducible assumption) | (refine Only.of_none ?_; with_reducible assumption) | (with_reducible refine Only.drewN ?_ _) | (with_reducible refine Only.drew ?_) | (with_reducible refine Only.alloc ?_ _) | (with_reducible refine Only.setCell ?_ ?_ _) | (with_reducible refine Only.then0 ?_ (by with_reducible assumption)) | (with_reducible refine Only.thenN ?_ (by with_reducible assumption) ?_) | (with_reducible refine Only.trans ?_ (by with_reducible assumption)) | (refine .inl ?_; first | rfl | (simp; done) | (simp [Ar.blk]; done)) | (refine .inr ?_; first | omega | (simp; done) | (simp; omega) | exact Only.size (by with_reducible assumption) | (refine Nat.le_trans (Only.size (by with_reducible assumption)) ?_; simp; done)))); all_goals (first | omega | (simp; done) | (simp; omega)); done)
        | (refine ⟨_, (w.heap.size + 1 + 1), (w.heap.size + 1), w.heap.size, rfl, ⟨?_, ?_, ?_, ?_, ?_⟩, ?_, ?_, ?_, ?_, ?_⟩; (repeat (first | exact hp_new (by simp; done) | (with_reducible refine hp_drew ?_) | (with_reducible refine hp_drewN ?_ _) | (with_reducible refine hp_old ?_ _))); (repeat (first | exact hp_new (by simp; done) | (with_reducible refine hp_drew ?_) | (with_reducible refine hp_drewN ?_ _) | (with_reducible refine hp_old ?_ _))); (repeat (first | exact hp_new (by simp; done) | (with_reducible refine hp_drew ?_) | (with_reducible refine hp_drewN ?_ _) | (with_reducible refine hp_old ?_ _))); (repeat (first | exact hp_new (by simp; done) | (with_reducible refine hp_drew ?_) | (with_reducible refine hp_drewN ?_ _) | (with_reducible refine hp_old ?_ _))); omega; (repeat' (first | (with_reducible exact Only.refl _ _) | (with_reducible assumption) | (refine Only.of_none ?_; with_reducible assumption) | (with_reducible refine Only.drewN ?_ _) | (with_reducible refine Only.drew ?_) | (with_reducible refine Only.alloc ?_ _) | (with_reducible refine Only.setCell ?_ ?_ _) | (with_reducible refine Only.then0 ?_ (by with_reducible assumption)) | (with_reducible refine Only.thenN ?_ (by with_reducible assumption) ?_) | (with_reducible refine Only.trans ?_ (by with_reducible assumption)) | (refine .inl ?_; first | rfl | (simp; done) | (simp [Ar.blk]; done)) | (refine .inr ?_; first | omega | (simp; done) | (simp; omega) | exact Only.size (by with_reducible assumption) | (refine Nat.le_trans (Only.size (by with_reducible assumption)) ?_; simp; done)))); all_goals (first | omega | (simp; done) | (simp; omega)); done)
  case rest =>
    obtain ⟨b, gl, gr, gf, rfl, hM, ho, g1, g2, g3, g4⟩ := hcut
    have hA := hM.at_ h3 h2
    have hne := hM.ne
    clear m1 m2 m3 hM
    have c0 := hA.c0.cell
    simp only at c0
    go_wp2
    go_loopw [36] (fun i wr => ∃ (k : Nat), i = .int .i64 k ∧ k ≤ room ∧ ArAt wr b ⟨gl, gr, gf, room, nr, room, fun _ => .agg #[.int .i64 0, .int .i64 0, .int .u8 0, .int .i64 0, .int .i64 0], fun i => if i < k then -1 else 0, fun _ => 0, fun _ => 0, fun _ => 0, fun _ => 0, fun _ => 0, fun i => if i < k then i else 0⟩ ∧ Only (fun _ => False) w wr)
      (fun i _ => room - (intOf i).toNat)
    case atStart => exact ⟨0, rfl, by omega, by simpa using hA, ho⟩
    case round =>
      obtain ⟨k, rfl, hk, hA1, ho1⟩ := hrel
      clear hA c0 ho
      have c0 := hA1.c0.cell
      have c1 := hA1.c1.cell
      have c2 := hA1.c2.cell
      have hbw := hA1.c0.lt
      have hlw := hA1.lr.1
      have hfw := hA1.gf_lt
      simp only at c0 c1 c2 hlw hfw
      by_cases hlt : k < room
      · obtain ⟨t1, u1⟩ := hA1.l1 k hlt
        obtain ⟨t2, u2⟩ := hA1.fc (i := k) hlt
        simp only at t1 u1 t2 u2
        have HW := Lib.hid (fun W (hW : ArAt W b ⟨gl, gr, gf, room, nr, room, fun _ => .agg #[.int .i64 0, .int .i64 0, .int .u8 0, .int .i64 0, .int .i64 0], fun i => if i < k then -1 else 0, fun _ => 0, fun _ => 0, fun _ => 0, fun _ => 0, fun _ => 0, fun i => if i < k then i else 0⟩) => (hW.set_ro (i := k) hlt (-1)).setf (i := k) hlt k)
        have HA1 := Lib.hid hA1
        clear hA1
        have n1 := hne.1
        have n3 := hne.2.2.1
        have n5 := hne.2.2.2.2.1
        go_wp2
        go_region
        go_wp2
        go_roundw
        case rel =>
          refine ⟨k + 1, by go_num, by omega, ?_, by repeat' (first | (with_reducible exact Only.refl _ _) | (with_reducible assumption) | (refine Only.of_none ?_; with_reducible assumption) | (with_reducible refine Only.drewN ?_ _) | (with_reducible refine Only.drew ?_) | (with_reducible refine Only.alloc ?_ _) | (with_reducible refine Only.setCell ?_ ?_ _) | (with_reducible refine Only.then0 ?_ (by with_reducible assumption)) | (with_reducible refine Only.thenN ?_ (by with_reducible assumption) ?_) | (with_reducible refine Only.trans ?_ (by with_reducible assumption)) | (refine .inl ?_; first | rfl | (simp; done) | (simp [Ar.blk]; done)) | (refine .inr ?_; first | omega | (simp; done) | (simp; omega) | exact Only.size (by with_reducible assumption) | (refine Nat.le_trans (Only.size (by with_reducible assumption)) ?_; simp; done)))⟩
          (repeat (first | (with_reducible refine ArAt.drew ?_) | (with_reducible refine ArAt.drewN ?_ _) | (with_reducible refine ArAt.alloc ?_ _)));
          have h5 := (HW.out _ (by (repeat (first | (with_reducible refine ArAt.drew ?_) | (with_reducible refine ArAt.drewN ?_ _) | (with_reducible refine ArAt.alloc ?_ _))); exact HA1.out))
          have e1 : upd (fun i : Nat => if i < k then (-1 : Int) else 0) k (-1) = fun i => if i < k + 1 then -1 else 0 := by
            funext i; simp only [upd]; by_cases h1 : i = k
            · subst h1; simp
            · rw [if_neg h1]; by_cases h2 : i < k
              · rw [if_pos h2, if_pos (by omega)]
              · rw [if_neg h2, if_neg (by omega)]
          have e2 : upd (fun i : Nat => if i < k then (i : Int) else 0) k k = fun i => if i < k + 1 then (i : Int) else 0 := by
            funext i; simp only [upd]; by_cases h1 : i = k
            · subst h1; simp
            · rw [if_neg h1]; by_cases h2 : i < k
              · rw [if_pos h2, if_pos (by omega)]
              · rw [if_neg h2, if_neg (by omega)]
          simp only [e1, e2] at h5
          exact h5
        case measure => simp [intOf]; omega
      · have hkr : k = room := by omega
        subst hkr
        obtain ⟨F, hF⟩ : ∃ F : Nat → Int, F = fun i => if i < k then (i : Int) else 0 := ⟨_, rfl⟩
        obtain ⟨R, hR⟩ : ∃ R : Nat → Int, R = fun i => if i < k then -1 else 0 := ⟨_, rfl⟩
        rw [← hF, ← hR] at hA1
        have HF := Lib.hid hF
        have HR := Lib.hid hR
        have HA1 := Lib.hid hA1
        clear hF hR hA1
        go_wp2
        go_loopw [59] (fun i wr => ∃ (j : Nat), i = .int .i64 j ∧ j ≤ nr ∧ ArAt wr b ⟨gl, gr, gf, k, nr, k, fun _ => .agg #[.int .i64 0, .int .i64 0, .int .u8 0, .int .i64 0, .int .i64 0], R, fun _ => 0, fun _ => 0, fun i => if i < j then -1 else 0, fun i => if i < j then -1 else 0, fun _ => 0, F⟩ ∧ Only (fun _ => False) w wr)
          (fun i _ => nr - (intOf i).toNat)
        case atStart => exact ⟨0, rfl, by omega, by simpa using HA1.out, ho1⟩
        case round =>
          obtain ⟨j, rfl, hj, hA2, ho2⟩ := hrel
          have d1 := hA2.c1.cell
          have hbw2 := hA2.c1.lt
          have hgw2 := hA2.lr.2
          simp only at d1 hgw2
          by_cases hlt2 : j < nr
          · obtain ⟨q0, p0⟩ := hA2.r0 j hlt2
            obtain ⟨q1, p1⟩ := hA2.r1 j hlt2
            obtain ⟨q2, p2⟩ := hA2.r2 j hlt2
            simp only at q0 q1 q2 p0 p1 p2
            have HW := Lib.hid (((hA2.set_rf (i := j) hlt2 (-1)).set_rl (i := j) hlt2 (-1)).set_rn (i := j) hlt2 0)
            clear hA2
            go_wp2
            go_roundw
            case rel =>
              refine ⟨j + 1, by go_num, by omega, ?_, by repeat' (first | (with_reducible exact Only.refl _ _) | (with_reducible assumption) | (refine Only.of_none ?_; with_reducible assumption) | (with_reducible refine Only.drewN ?_ _) | (with_reducible refine Only.drew ?_) | (with_reducible refine Only.alloc ?_ _) | (with_reducible refine Only.setCell ?_ ?_ _) | (with_reducible refine Only.then0 ?_ (by with_reducible assumption)) | (with_reducible refine Only.thenN ?_ (by with_reducible assumption) ?_) | (with_reducible refine Only.trans ?_ (by with_reducible assumption)) | (refine .inl ?_; first | rfl | (simp; done) | (simp [Ar.blk]; done)) | (refine .inr ?_; first | omega | (simp; done) | (simp; omega) | exact Only.size (by with_reducible assumption) | (refine Nat.le_trans (Only.size (by with_reducible assumption)) ?_; simp; done)))⟩
              (repeat (first | (with_reducible refine ArAt.drew ?_) | (with_reducible refine ArAt.drewN ?_ _) | (with_reducible refine ArAt.alloc ?_ _)));
              have h5 := HW.out
              have e1 : upd (fun i : Nat => if i < j then (-1 : Int) else 0) j (-1) = fun i => if i < j + 1 then -1 else 0 := by
                funext i; simp only [upd]; by_cases h1 : i = j
                · subst h1; simp
                · rw [if_neg h1]; by_cases h2 : i < j
                  · rw [if_pos h2, if_pos (by omega)]
                  · rw [if_neg h2, if_neg (by omega)]
              have e2 : upd (fun _ : Nat => (0 : Int)) j 0 = fun _ => 0 := by
                funext i; simp only [upd]; split <;> rfl
              simp only [e1, e2] at h5
              exact h5
            case measure => simp [intOf]; omega
          · have hjr : j = nr := by omega
            have HA2 := Lib.hid hA2
            clear hA2
            go_wp2
            go_returns
            refine ⟨b, gl, gr, gf, rfl, ?_, by repeat' (first | (with_reducible exact Only.refl _ _) | (with_reducible assumption) | (refine Only.of_none ?_; with_reducible assumption) | (with_reducible refine Only.drewN ?_ _) | (with_reducible refine Only.drew ?_) | (with_reducible refine Only.alloc ?_ _) | (with_reducible refine Only.setCell ?_ ?_ _) | (with_reducible refine Only.then0 ?_ (by with_reducible assumption)) | (with_reducible refine Only.thenN ?_ (by with_reducible assumption) ?_) | (with_reducible refine Only.trans ?_ (by with_reducible assumption)) | (refine .inl ?_; first | rfl | (simp; done) | (simp [Ar.blk]; done)) | (refine .inr ?_; first | omega | (simp; done) | (simp; omega) | exact Only.size (by with_reducible assumption) | (refine Nat.le_trans (Only.size (by with_reducible assumption)) ?_; simp; done))), g1, g2, g3, g4⟩
            (repeat (first | (with_reducible refine ArAt.drew ?_) | (with_reducible refine ArAt.drewN ?_ _) | (with_reducible refine ArAt.alloc ?_ _)));
            have h5 := HA2.out
            rw [HF.out, HR.out, hjr] at h5
            exact h5.congr (fun i hi => by simp [Ar.init, hi]) (fun i hi => by simp [Ar.init, hi]) (fun i hi => by simp [Ar.init, hi]) (fun i hi => by simp [Ar.init, hi])
end Od
end Go.Proofs.Ytkglplngnjgnhaa
