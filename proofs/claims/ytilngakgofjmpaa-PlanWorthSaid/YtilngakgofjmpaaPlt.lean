/- PlanWorth: the walk. No condition. -/
import Derived.Test.YtilngakgofjmpaaPls
import Derived.Test.YtilngakgofjmpaaPlX
import Derived.Test.YtilngakgofjmpaaJA
import Derived.Lib.SmallJoins
namespace Go.Proofs.Ytilngakgofjmpaa
set_option linter.unusedVariables false
set_option linter.unusedSimpArgs false
open Go.RowKit Go.ChangeShapes Go.WideShapes Go.ChangeAt Go.Deep

section
variable {H : Type} {enc : TypeId × Value → H} {W : World} {base : Nat} {spare : Nat → Bool} {held : Bool}
/-- A slice of flat elements that is a field. -/
theorem open_flats_at {P : Program} {t e : TypeId} {ks : List LK} {v : Value} {fuel : Nat} {y : DataW H × List MemPlace} (ht : P.underlying t = some (.slice e)) (hF : Flat P e ks) (hC : P.cellsOf e = ks.length)
    (hf : DataW.trod enc P W base spare held fuel t [v] = some y) : ∃ a len cap rows, v = .slice a len cap ∧ SliceIn W a len cap ks rows := by
  rcases open_slice ht hf with ⟨hcs, hd⟩ | ⟨x, len', cap', m, n, D, Pl, hcs, hb, hl, hm, hmm, hx, hi⟩
  · injection hcs with hcs _
    exact ⟨_, _, _, [], hcs, ⟨rfl, by simp, .inl ⟨rfl, rfl, rfl⟩⟩⟩
  · injection hcs with hcs _
    have hlm : len' ≤ m := by rw [hmm]; split <;> omega
    have hrow : ∀ i, i < len' → ∃ cs', W.cells? base (x.add (i * P.cellsOf e)) (P.cellsOf e) = some cs' ∧ Fits ks cs' := fun i hil => by
      obtain ⟨cs', h1, h2⟩ := hi i (by omega)
      exact ⟨cs', h1, hF.open h2⟩
    have hch : ∃ g : Nat → List Value, ∀ i, i < len' → W.cells? base (x.add (i * P.cellsOf e)) (P.cellsOf e) = some (g i) ∧ Fits ks (g i) :=
      ⟨fun i => if h : i < len' then Classical.choose (hrow i h) else [], fun i h => by simp only [dif_pos h]; exact Classical.choose_spec (hrow i h)⟩
    obtain ⟨g, hg⟩ := hch
    refine ⟨_, _, _, (List.range len').map g, hcs, ⟨by simp, ?_, .inr ⟨x, rfl, hl, hm, ?_⟩⟩⟩
    · intro r hr
      obtain ⟨i, hi', rfl⟩ := List.mem_map.1 hr
      exact (hg i (by simpa using hi')).2
    · intro i r hr j v hj
      have hil : i < len' := by have := (List.getElem?_eq_some_iff.1 hr).1; simpa using this
      have hri : r = g i := by simp [hil] at hr; exact hr.symm
      obtain ⟨h1, h2⟩ := hg i hil
      obtain ⟨_, hcl, hat⟩ := World.cells?_some h1
      have hjl : j < ks.length := by rw [← h2.length, ← hri]; exact (List.getElem?_eq_some_iff.1 hj).1
      have := hat j (by omega)
      rw [← Go.Deep.add_add, ← hC, this, ← hri, hj]
set_option maxRecDepth 100000 in
theorem open_plan {r : Reach} {b0 : Nat} {v : Value} {d : DataW H} {p : List MemPlace} (hv : Value.okWide Try.prog W r b0 104 v) (h : DataW.Trod enc Try.prog W base spare held 104 v d p) :
    ∃ a len cap rows, ∃ (t g q : Int), v = .agg #[.slice a len cap, .int .i64 t, .int .i64 g, .int .i64 q] ∧ SliceIn W a len cap [.i .i64, .i .i64, .i .i64, .b] rows := by
  obtain ⟨v0, v1, v2, v3, y0, y1, y2, y3, n, rfl, _, _, h0, h1, h2, h3⟩ := Go.Joins.open_agg4 Try.underlying104 (by kernel_rfl) (by kernel_rfl) hv h
  obtain ⟨a, len, cap, rows, rfl, hs⟩ := open_flats_at Try.underlying102 (show Flat Try.prog 117 [.i .i64, .i .i64, .i .i64, .b] from flat_of (n := 6) (by kernel_rfl)) (by kernel_rfl) h0
  obtain ⟨t, e1, _, _⟩ := DataW.trod_int Try.underlying2 h1
  obtain ⟨g, e2, _, _⟩ := DataW.trod_int Try.underlying2 h2
  obtain ⟨q, e3, _, _⟩ := DataW.trod_int Try.underlying2 h3
  injection e1 with e1 _
  injection e2 with e2 _
  injection e3 with e3 _
  subst e1 e2 e3
  exact ⟨a, len, cap, rows, t, g, q, rfl, hs⟩
end

theorem worthV_two (hs : List HitR) : ∃ (z : Int) (d : Bool), worthV hs = .tuple #[.int .i64 z, .bool d] := by
  unfold worthV
  split
  · exact ⟨_, _, rfl⟩
  · exact ⟨_, _, rfl⟩

set_option maxRecDepth 100000 in
set_option maxHeartbeats 4000000 in
theorem planWorth_walk (w : World) (a : Option Addr) (len cap : Nat) (rows : List (List Value)) (t g q : Int) (hs : SliceIn w a len cap [.i .i64, .i .i64, .i .i64, .b] rows) :
    Calls Try.prog 9 #[.agg #[.slice a len cap, .int .i64 t, .int .i64 g, .int .i64 q]] w fun e w' => e = .returned (.bool true) ∧ Below w.heap.size w w' := by
  refine Calls.mono (R := fun e w' => e = .returned (.bool true) ∧ Only (fun _ => False) w w') ?_ (fun e w' h => ⟨h.1, h.2.below⟩)
  obtain ⟨xs, hn, hat, hin⟩ := hits_in hs
  have hcap : len ≤ cap := by
    rcases hs.2.2 with ⟨_, h1, h2⟩ | ⟨_, _, h1, _⟩
    · omega
    · exact h1
  obtain ⟨z, d, hz⟩ := worthV_two xs
  have hzz : (z == z) = true := by simp
  have hdd : (d == d) = true := by simp
  have HP := Lib.hid (⟨hat, hin, hn, hz⟩ : _ ∧ _ ∧ _ ∧ _)
  have oA : Only (fun _ => False) w (w.alloc (.cells #[.slice a len cap, .int .i64 t, .int .i64 g, .int .i64 q] 104)) := (Only.refl _ w).alloc _
  have hE : ∀ (o : Nat) (v : Value), (#[.slice a len cap, .int .i64 t, .int .i64 g, .int .i64 q] : Array Value)[o]? = some v → Cell (w.alloc (.cells #[.slice a len cap, .int .i64 t, .int .i64 g, .int .i64 q] 104)) w.heap.size o v := fun o v hv => Cell.new hv
  have HA := Lib.hid (⟨oA, hE⟩ : _ ∧ _)
  clear hs hat hin hn hz oA hE
  go_enter Try.func9, Try.ntmps9
  go_wp2_with fail
  refine (pworks_walk _).mono ?_
  rintro en w1 ⟨rfl, o1⟩
  obtain ⟨oA, hE⟩ := HA.out
  have O1 := oA.trans o1
  have y0 := ((hE 0 _ rfl).only o1 id).cell
  have y1 := ((hE 1 _ rfl).only o1 id).cell
  have y2 := ((hE 2 _ rfl).only o1 id).cell
  have y3 := ((hE 3 _ rfl).only o1 id).cell
  have zy := cell_lt y0
  have HO1 := Lib.hid O1
  have HE := Lib.hid fun W (o : Only (fun _ => False) w1 W) (j : Nat) (v : Value) (hv : (#[.slice a len cap, .int .i64 t, .int .i64 g, .int .i64 q] : Array Value)[j]? = some v) => ((hE j v hv).only o1 id).only o id
  clear oA hE o1 HA O1
  by_cases hbig : 1048576 < len
  · have t1 : decide (1048576 < len) = true := by simpa using hbig
    have t1' : decide ((1048576 : Int) < (len : Int)) = true := by simp; omega
    clear hbig
    go_wp2_with fail
    go_returns
    exact ⟨rfl, HO1.out⟩
  · have t1 : decide (1048576 < len) = false := by simpa using hbig
    have t1' : decide ((1048576 : Int) < (len : Int)) = false := by simp; omega
    have hlen : len ≤ 1048576 := by omega
    clear hbig
    obtain ⟨W2, hW2⟩ : ∃ W2, w1.alloc (.cells #[.slice a len cap, .int .i64 t, .int .i64 g, .int .i64 q] 104) = W2 := ⟨_, rfl⟩
    obtain ⟨B, hB⟩ : ∃ B, w1.heap.size = B := ⟨_, rfl⟩
    have o2 : Only (fun _ => False) w1 W2 := by rw [← hW2]; exact (Only.refl _ _).alloc _
    have hC : ∀ (o : Nat) (v : Value), (#[.slice a len cap, .int .i64 t, .int .i64 g, .int .i64 q] : Array Value)[o]? = some v → Cell W2 B o v := fun o v hv => by rw [← hW2, ← hB]; exact Cell.new hv
    have hz2 : W2.heap.size = B + 1 := by rw [← hW2, ← hB]; simp
    have HL := Lib.hid (s_lentH W2 a len cap xs HP.out.2.2.1 (HP.out.2.1.only (HO1.out.trans o2)) hlen)
    have HC := Lib.hid (⟨o2, hC⟩ : _ ∧ _)
    have x0 := (HE.out W2 o2 0 _ rfl).cell
    have zx := cell_lt x0
    clear y0 y1 y2 y3 zy
    have y0 := (HE.out w1 (Only.refl _ _) 0 _ rfl).cell
    have y1 := (HE.out w1 (Only.refl _ _) 1 _ rfl).cell
    have y2 := (HE.out w1 (Only.refl _ _) 2 _ rfl).cell
    have y3 := (HE.out w1 (Only.refl _ _) 3 _ rfl).cell
    have zy := cell_lt y0
    have HB := Lib.hid hB
    clear o2 hC
    go_upto_region 5 with fail
    try rw [hW2]
    try simp only [hB]
    clear hW2 hB
    go_wp2_with fail
    refine HL.out.mono ?_
    intro en w3 hp
    obtain ⟨rfl, hblk, o3⟩ := hp
    obtain ⟨o2, hC⟩ := HC.out
    have c0 := (hC 0 _ rfl).only o3 id
    have c1 := (hC 1 _ rfl).only o3 id
    have c2 := (hC 2 _ rfl).only o3 id
    have c3 := (hC 3 _ rfl).only o3 id
    have hz3 := o3.size
    rw [hz2] at hblk ⊢
    obtain ⟨W4, hW4⟩ : ∃ W4, w3.setCell ⟨B, 0, none⟩ (.slice (some ⟨B + 1, 0, none⟩) len (len + 2)) = W4 := ⟨_, rfl⟩
    have oS : Only (· = B) w3 W4 := by rw [← hW4]; exact (Only.refl (· = B) w3).setCell (.inl rfl) _
    have O4 : Only (fun _ => False) w1 W4 := (o2.trans o3).trans' oS (fun i h1 h2 => by have := HB.out; omega)
    have s0 : Cell W4 B 0 (.slice (some ⟨B + 1, 0, none⟩) len (len + 2)) := by rw [← hW4]; exact c0.set _
    have s1 : Cell W4 B 1 (.int .i64 t) := by rw [← hW4]; exact c1.far (off_ne (by decide)) _
    have s2 : Cell W4 B 2 (.int .i64 g) := by rw [← hW4]; exact c2.far (off_ne (by decide)) _
    have s3 : Cell W4 B 3 (.int .i64 q) := by rw [← hW4]; exact c3.far (off_ne (by decide)) _
    have hlB : B + 1 < w3.heap.size := (Array.getElem?_eq_some_iff.1 hblk).1
    have hblk4 := (oS.block (B + 1) hlB (by omega)).trans hblk
    have hwo := k_worth W4 (some ⟨B + 1, 0, none⟩) (len + 2) xs (by rw [HP.out.2.2.1]; omega) (hits_blk hblk4).1 t g q
    rw [HP.out.2.2.1, HP.out.2.2.2] at hwo
    have HWO := Lib.hid hwo
    have HX := Lib.hid (⟨hblk4, O4, s0, s1, s2, s3⟩ : _ ∧ _ ∧ _ ∧ _ ∧ _ ∧ _)
    have q0 := c0.cell
    have f0 := c0.free
    have zq := cell_lt q0
    have r0 := s0.cell
    have r1 := s1.cell
    have r2 := s2.cell
    have r3 := s3.cell
    have zr := cell_lt r0
    clear hblk o3 o2 hC c0 c1 c2 c3 oS O4 s0 s1 s2 s3 hblk4 hwo x0 zx y0 y1 y2 y3 zy HL
    go_upto_region 6 with fail
    try rw [hW4]
    clear hW4 q0 f0 zq
    go_wp2_with fail
    refine HWO.out.mono ?_
    rintro en w5 ⟨rfl, o5⟩
    obtain ⟨hblk4, O4, s0, s1, s2, s3⟩ := HX.out
    have O5 := O4.trans o5
    have hlB4 : B + 1 < W4.heap.size := (Array.getElem?_eq_some_iff.1 hblk4).1
    have hblk5 := (o5.block (B + 1) hlB4 id).trans hblk4
    have HWH := Lib.hid (s_wholeH w5 (B + 1) len xs hblk5 HP.out.2.2.1 a cap hcap (HP.out.1.only (HO1.out.trans O5) (fun _ _ => id)) hlen)
    have y0 := (HE.out w5 O5 0 _ rfl).cell
    have zy := cell_lt y0
    have r0' := (s0.only o5 id).cell
    have zr' := cell_lt r0'
    have HO5 := Lib.hid O5
    clear r0 r1 r2 r3 zr hblk4 O4 s0 s1 s2 s3 o5 O5 hblk5 HWO HX
    go_wp2_with fail
    refine HWH.out.mono ?_
    rintro en w6 ⟨rfl, o6⟩
    have O6 := HO5.out.trans o6
    have hro := r_worth w6 a cap xs (by rw [HP.out.2.2.1]; omega) (HP.out.1.only (HO1.out.trans O6) (fun _ _ => id)) t g q
    rw [HP.out.2.2.1, HP.out.2.2.2] at hro
    have HRO := Lib.hid hro
    have HO6 := Lib.hid O6
    clear y0 zy r0' zr' hro
    have y0 := (HE.out w6 O6 0 _ rfl).cell
    have y1 := (HE.out w6 O6 1 _ rfl).cell
    have y2 := (HE.out w6 O6 2 _ rfl).cell
    have y3 := (HE.out w6 O6 3 _ rfl).cell
    have zy := cell_lt y0
    clear O6 o6
    go_wp2_with fail
    refine HRO.out.mono ?_
    rintro en w7 ⟨rfl, o7⟩
    have HO7 := Lib.hid (HO6.out.trans o7)
    clear y0 y1 y2 y3 zy o7
    go_wp2_with fail
    go_returns
    exact ⟨rfl, HO1.out.trans HO7.out⟩
end Go.Proofs.Ytilngakgofjmpaa
