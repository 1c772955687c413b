/- BookOrder: the walk. No condition. -/
import Derived.Test.YtkglplngnjgnhaaBo1
import Derived.Test.YtkglplngnjgnhaaBkX
import Derived.Test.YtkglplngnjgnhaaR6s
import Derived.Test.YtkglplngnjgnhaaRin2
import Derived.Laws.EntriesVeiled
import Derived.Sort.CutIn
namespace Go.Proofs.Ytkglplngnjgnhaa
set_option linter.unusedVariables false
set_option linter.unusedSimpArgs false
open Go.RowKit Go.Shelf
open Od (OrdR)
attribute [local go_sem] Oper.semAt_some

theorem k_better (w : World) (q : Bool) (p p' : Int) : Calls Try.prog 37 #[.int .u8 (sdN q), .int .i64 p, .int .i64 p'] w fun e w' => e = .returned (.bool (decide (sgn q * p < sgn q * p'))) ∧ w = w' := by
  cases q
  · show Calls _ _ #[.int .u8 1, .int .i64 p, .int .i64 p'] _ _
    rw [show decide (sgn false * p < sgn false * p') = decide (p' < p) from decide_eq_decide.2 (by simp [sgn])]
    go_enter Try.func37, Try.ntmps37
    go_wp2_with fail
    go_returns
    exact ⟨rfl, rfl⟩
  · show Calls _ _ #[.int .u8 2, .int .i64 p, .int .i64 p'] _ _
    rw [show decide (sgn true * p < sgn true * p') = decide (p < p') from decide_eq_decide.2 (by simp [sgn])]
    go_enter Try.func37, Try.ntmps37
    go_wp2_with fail
    go_returns
    exact ⟨rfl, rfl⟩
theorem wf_of2 {x : Int} (h1 : -9223372036854775808 ≤ x) (h2 : x ≤ 9223372036854775807) : Wf x := by
  unfold Wf Lit.wf
  simp [IntKind.min, IntKind.max, IntKind.signed, IntKind.bits]
  omega
theorem b_len2 {w : World} {b most room : Nat} {T : Nat → Prop} {l : Bool → List OrdR} (h : Bk w b T most room l) : Calls Try.prog 40 #[.pointer (some ⟨b, 0, none⟩)] w fun e w' => e = .returned (.int .i64 ((l false).length + (l true).length : Nat)) ∧ w = w' := by
  obtain ⟨bs, gu, hv, ba, gl, gr, gf, bm, L, R, V, F, h, rfl⟩ := h
  exact k_len h
theorem below_bd (c : Int) (L : List OrdR) : 0 ≤ below c L ∧ below c L ≤ L.length := by
  unfold below
  have := List.length_filter_le (fun o : OrdR => decide (o.c < c)) L
  omega
theorem cnt_bd (c : Int) (L : List OrdR) : 0 ≤ cntC c L ∧ cntC c L ≤ L.length := by
  unfold cntC ofC
  have := List.length_filter_le (fun o : OrdR => decide (o.c = c)) L
  omega
def Nine9 (W : World) (g : Nat) (c : Array Value) : Prop := ∀ k v, c[k]? = some v → Cell W g k v
theorem Nine9.new (W : World) (c : Array Value) (t : TypeId) : Nine9 (W.alloc (.cells c t)) W.heap.size c := fun k v hv => Cell.new hv
theorem Nine9.only {W : World} {g : Nat} {c : Array Value} (h : Nine9 W g c) {w' : World} (o : Only (fun _ => False) W w') : Nine9 w' g c := fun k v hv => (h k v hv).only o id

/-- The book while calls come. -/
structure OrdI (w0 : World) (N : Nat) (lim : Int) (m : Nat) (b : Nat) (k : Nat) (wr : World) (l : Bool → List OrdR) (T : Nat → Prop) : Prop where
  bk : Bk wr b T m 256 l
  lo : ∀ i, T i → N + 2 ≤ i
  rise : Rise l k
  only : Only (fun _ => False) w0 wr
  c5 : Cell wr N 0 (.int .i64 lim)
  c6 : Cell wr (N + 1) 0 (.bool false)
theorem OrdI.post {w0 wr W w' : World} {N : Nat} {lim : Int} {m b k : Nat} {l l' : Bool → List OrdR} {T : Nat → Prop} (hN : w0.heap.size = N) (h : OrdI w0 N lim m b k wr l T) (o : Only (fun _ => False) wr W) {v : Value} {e : Ending} (hp : BkPost W b T m 256 l' v e w') {k' : Nat} (hr : Rise l' k') : ∃ T', e = .returned v ∧ OrdI w0 N lim m b k' w' l' T' := by
  obtain ⟨T', he, hb, ho, hg⟩ := hp
  have hz := h.only.size
  have hc6 := h.c6.lt
  refine ⟨T', he, hb, fun i hi => ?_, hr, (h.only.trans o).trans' ho (fun i h1 h2 => by have := h.lo i h2; omega), (h.c5.only o id).only ho (fun hT => by have := h.lo _ hT; omega), (h.c6.only o id).only ho (fun hT => by have := h.lo _ hT; omega)⟩
  rcases hg i hi with h1 | h1
  · exact h.lo i h1
  · have := o.size; omega
theorem OrdI.keep {w0 wr W : World} {N : Nat} {lim : Int} {m b k : Nat} {l : Bool → List OrdR} {T : Nat → Prop} (h : OrdI w0 N lim m b k wr l T) (o : Only (fun _ => False) wr W) : OrdI w0 N lim m b k W l T :=
  ⟨h.bk.only o (fun _ _ => id), h.lo, h.rise, h.only.trans o, h.c5.only o id, h.c6.only o id⟩

set_option maxHeartbeats 16000000 in
set_option maxRecDepth 100000 in
theorem bookOrder_yes (w : World) (x0 lim : Int) (wf0 : Wf x0) (wfl : Wf lim) (a : Option Addr) (len cap : Nat) (rows : List (List Value)) (hs : SliceIn w a len cap [.i .i64, .i .i64, .i .i64, .i .u8, .i .i64, .i .i64, .i .u8, .i .i64, .i .i64] rows) (hlen : len * 72 ≤ 140737488351232) :
    Calls Try.prog 8 #[.int .i64 x0, .slice a len cap, .int .i64 lim] w fun e w' => e = .returned (.bool true) ∧ Only (fun _ => False) w w' := by
  have b0 := wf_le wf0
  have HSS := Lib.hid hs
  clear hs
  refine callsIn_wide.1 (callsIn_of_wp_marks (n := 0) Try.func8 rfl trivial (wpIn_wide.2 ?_) rfl)
  simp only [Try.ntmps8, List.size_toArray, List.length_cons, List.length_nil, Nat.reduceAdd, Nat.reduceSub, Array.replicate_succ, Array.replicate_zero, List.push_toArray, List.append_toArray, List.nil_append, List.cons_append]
  go_upto_if 33 with (refine (bworks_walk _).mono ?_; rintro e w1 ⟨rfl, o1⟩)
  have c5 : Cell w1 w.heap.size 0 (.int .i64 lim) := ((Cell.new (w := w) (cs := #[.int .i64 lim]) (o := 0) rfl).alloc _).only o1 id
  have c6 : Cell w1 (w.heap.size + 1) 0 (.bool false) := by
    have h := (Cell.new (w := w.alloc (.cells #[.int .i64 lim] 2)) (cs := #[.bool false]) (t := 4) (o := 0) rfl)
    rw [World.size_alloc] at h
    exact h.only o1 id
  have p1 : Only (fun _ => False) w w1 := (((Only.refl _ w).alloc _).alloc _).then0 o1
  clear o1
  have z1 := c6.lt
  go_cut [0] from 33 to 36 (fun s0 wc => ∃ y : Nat, y ≤ 9223372036854775807 ∧ s0 = .int .i64 y ∧ w1 = wc)
  case first =>
    by_cases h0 : x0 < 0
    · have e1 : decide (x0 < 0) = true := by simpa using h0
      go_wp2_with fail
      go_meet
      exact ⟨(-(x0 + 1)).toNat, by omega, by rw [Int.toNat_of_nonneg (by omega)], rfl⟩
    · have e1 : decide (x0 < 0) = false := by simpa using h0
      go_wp2_with fail
      go_meet
      exact ⟨x0.toNat, by omega, by rw [Int.toNat_of_nonneg (by omega)], rfl⟩
  case rest =>
  obtain ⟨y0, hy0, rfl, rfl⟩ := hcut
  obtain ⟨m, hm⟩ : ∃ m : Nat, m = y0 % 129 := ⟨_, rfl⟩
  have hm128 : m ≤ 128 := by omega
  have e0 : (y0 : Int) % 129 = (m : Int) := by omega
  have H0 := fun W => Lib.hid (show Calls Try.prog 23 #[.int .i64 256, .int .i64 (m : Nat)] W (BkNew W m 256) from k_new W 256 m (by decide) hm128)
  obtain ⟨N, hN⟩ : ∃ N, w.heap.size = N := ⟨_, rfl⟩
  rw [hN] at c5 c6 z1
  rw [hN]
  have HNN := Lib.hid hN
  have HC := Lib.hid (⟨c5, c6, p1⟩ : _ ∧ _ ∧ _)
  clear b0 wf0 hm c5 c6 p1 hN
  go_wp2_with fail
  try rw [e0]
  refine (H0 _).out.mono ?_
  intro e w2 hp
  obtain ⟨b, T0, rfl, hB0, o2, hT0⟩ := hp
  have HI0 := Lib.hid (show OrdI w N lim m b 0 w2 (fun _ => []) T0 from ⟨hB0, fun i hi => by have := hT0 i hi; omega, Rise.start 0, HC.out.2.2.trans o2, HC.out.1.only o2 id, HC.out.2.1.only o2 id⟩)
  clear hB0 hT0 o2 HC H0 e0 hy0 z1
  go_wp2_with fail
  go_loopw [10] (fun s wr => ∃ (k : Nat) (l : Bool → List OrdR) (T : Nat → Prop), k ≤ len ∧ s = .int .i64 k ∧ OrdI w N lim m b k wr l T) (fun s _ => len - (intOf s).toNat)
  case atStart => exact ⟨0, _, T0, by omega, rfl, HI0.out⟩
  case round =>
    clear HI0
    obtain ⟨k, l, T, hk, rfl, hI⟩ := hrel
    by_cases hlt : k < len
    · obtain ⟨B, off, ha, hBl, hcell⟩ := HSS.out.at_ (by omega) (by decide)
      subst ha
      obtain ⟨r, hr⟩ : ∃ r, rows[k]? = some r := ⟨_, List.getElem?_eq_getElem (by rw [HSS.out.1]; exact hlt)⟩
      obtain ⟨kind, _, rfl, hw0, hf⟩ := fits_i (HSS.out.2.1 r (List.mem_of_getElem? hr))
      obtain ⟨oi, _, rfl, hw1, hf⟩ := fits_i hf
      obtain ⟨oc, _, rfl, hw2, hf⟩ := fits_i hf
      obtain ⟨os, _, rfl, hw3, hf⟩ := fits_i hf
      obtain ⟨op, _, rfl, hw4, hf⟩ := fits_i hf
      obtain ⟨oq, _, rfl, hw5, hf⟩ := fits_i hf
      obtain ⟨sd, _, rfl, hw6, hf⟩ := fits_i hf
      obtain ⟨pp, _, rfl, hw7, hf⟩ := fits_i hf
      obtain ⟨num, _, rfl, hw8, hf⟩ := fits_i hf
      obtain rfl := fits_nil hf
      have ho := hI.only
      have r0 := ho.cell (hcell k _ hr 0 _ rfl) id
      have r1 := ho.cell (hcell k _ hr 1 _ rfl) id
      have r2 := ho.cell (hcell k _ hr 2 _ rfl) id
      have r3 := ho.cell (hcell k _ hr 3 _ rfl) id
      have r4 := ho.cell (hcell k _ hr 4 _ rfl) id
      have r5 := ho.cell (hcell k _ hr 5 _ rfl) id
      have r6 := ho.cell (hcell k _ hr 6 _ rfl) id
      have r7 := ho.cell (hcell k _ hr 7 _ rfl) id
      have r8 := ho.cell (hcell k _ hr 8 _ rfl) id
      simp only [List.length_cons, List.length_nil, Nat.zero_add, Nat.reduceAdd, Nat.add_zero] at r0 r1 r2 r3 r4 r5 r6 r7 r8
      have hbr : B < wr.heap.size := Nat.lt_of_lt_of_le hBl ho.size
      have t1 : decide (k < len) = true := by simpa using hlt
      have i1 : (0 : Int) ≤ (k : Int) ∧ (k : Int) < (len : Int) := by omega
      have w1' : IntKind.i64.wrap ((k : Int) + 1) = (k : Int) + 1 := by rw [IntKind.wrap_i64]; omega
      have hg := hI.bk.good
      have hri := hI.rise
      have HI := Lib.hid hI
      have HW8 := Lib.hid hw8
      have HG := Lib.hid hg
      by_cases h2 : kind = 2
      · as_aux_lemma =>
          subst h2
          have HD := Lib.hid fun W (o : Only (fun _ => False) wr W) => bk_remove (hI.bk.only o fun _ _ => id) num hw8
          clear hcell hf hr hI hw0 hw1 hw2 hw3 hw4 hw5 hw6 hw7 hw8 ho hg hri
          go_wp2_with fail
          refine (HD.out _ (by repeat' (first | (with_reducible exact Only.refl _ _) | (with_reducible assumption) | (refine Only.of_none ?_; with_reducible assumption) | (with_reducible refine Only.drewN ?_ _) | (with_reducible refine Only.drew ?_) | (with_reducible refine Only.alloc ?_ _) | (with_reducible refine Only.setCell ?_ ?_ _) | (with_reducible refine Only.then0 ?_ (by with_reducible assumption)) | (with_reducible refine Only.thenN ?_ (by with_reducible assumption) ?_) | (with_reducible refine Only.trans ?_ (by with_reducible assumption)) | (refine .inl ?_; first | rfl | (simp; done) | (simp [Ar.blk]; done)) | (refine .inr ?_; first | omega | (simp; done) | (simp; omega) | exact Only.size (by with_reducible assumption) | (refine Nat.le_trans (Only.size (by with_reducible assumption)) ?_; simp; done))))).mono ?_
          intro e w6 hp
          obtain ⟨T6, rfl, hI6⟩ := HI.out.post HNN.out (by repeat' (first | (with_reducible exact Only.refl _ _) | (with_reducible assumption) | (refine Only.of_none ?_; with_reducible assumption) | (with_reducible refine Only.drewN ?_ _) | (with_reducible refine Only.drew ?_) | (with_reducible refine Only.alloc ?_ _) | (with_reducible refine Only.setCell ?_ ?_ _) | (with_reducible refine Only.then0 ?_ (by with_reducible assumption)) | (with_reducible refine Only.thenN ?_ (by with_reducible assumption) ?_) | (with_reducible refine Only.trans ?_ (by with_reducible assumption)) | (refine .inl ?_; first | rfl | (simp; done) | (simp [Ar.blk]; done)) | (refine .inr ?_; first | omega | (simp; done) | (simp; omega) | exact Only.size (by with_reducible assumption) | (refine Nat.le_trans (Only.size (by with_reducible assumption)) ?_; simp; done)))) hp (k' := k + 1) ((HI.out.rise.rem num).more (by omega))
          have HI6 := Lib.hid hI6
          clear hI6 HD hp
          go_wp2_with fail
          go_roundw
          case rel => exact ⟨k + 1, _, T6, by omega, by go_num, HI6.out⟩
          case measure => simp [intOf]; omega
      · have t2 : (kind == 2) = false := by simpa using h2
        by_cases h3 : kind = 3
        · as_aux_lemma =>
            subst h3
            have HD := Lib.hid fun W (o : Only (fun _ => False) wr W) => bk_reduce (hI.bk.only o fun _ _ => id) num pp hw8
            clear hcell hf hr hI hw0 hw1 hw2 hw3 hw4 hw5 hw6 hw7 hw8 ho hg hri
            go_wp2_with fail
            refine (HD.out _ (by repeat' (first | (with_reducible exact Only.refl _ _) | (with_reducible assumption) | (refine Only.of_none ?_; with_reducible assumption) | (with_reducible refine Only.drewN ?_ _) | (with_reducible refine Only.drew ?_) | (with_reducible refine Only.alloc ?_ _) | (with_reducible refine Only.setCell ?_ ?_ _) | (with_reducible refine Only.then0 ?_ (by with_reducible assumption)) | (with_reducible refine Only.thenN ?_ (by with_reducible assumption) ?_) | (with_reducible refine Only.trans ?_ (by with_reducible assumption)) | (refine .inl ?_; first | rfl | (simp; done) | (simp [Ar.blk]; done)) | (refine .inr ?_; first | omega | (simp; done) | (simp; omega) | exact Only.size (by with_reducible assumption) | (refine Nat.le_trans (Only.size (by with_reducible assumption)) ?_; simp; done))))).mono ?_
            intro e w6 hp
            obtain ⟨T6, rfl, hI6⟩ := HI.out.post HNN.out (by repeat' (first | (with_reducible exact Only.refl _ _) | (with_reducible assumption) | (refine Only.of_none ?_; with_reducible assumption) | (with_reducible refine Only.drewN ?_ _) | (with_reducible refine Only.drew ?_) | (with_reducible refine Only.alloc ?_ _) | (with_reducible refine Only.setCell ?_ ?_ _) | (with_reducible refine Only.then0 ?_ (by with_reducible assumption)) | (with_reducible refine Only.thenN ?_ (by with_reducible assumption) ?_) | (with_reducible refine Only.trans ?_ (by with_reducible assumption)) | (refine .inl ?_; first | rfl | (simp; done) | (simp [Ar.blk]; done)) | (refine .inr ?_; first | omega | (simp; done) | (simp; omega) | exact Only.size (by with_reducible assumption) | (refine Nat.le_trans (Only.size (by with_reducible assumption)) ?_; simp; done)))) hp (k' := k + 1) ((HI.out.rise.red HG.out num pp).more (by omega))
            have HI6 := Lib.hid hI6
            clear hI6 HD hp
            go_wp2_with fail
            go_roundw
            case rel => exact ⟨k + 1, _, T6, by omega, by go_num, HI6.out⟩
            case measure => simp [intOf]; omega
        · have t3 : (kind == 3) = false := by simpa using h3
          as_aux_lemma =>
            have HD := Lib.hid fun W (o : Only (fun _ => False) wr W) => (show Calls Try.prog 24 #[.pointer (some ⟨b, 0, none⟩), .agg #[.int .i64 ((k : Int) + 1), .int .i64 oc, .int .u8 os, .int .i64 op, .int .i64 oq]] W (BkPost W b T m 256 (insS m 256 l ⟨(k : Int) + 1, oc, os, op, oq⟩) (.int .i64 (insE m 256 l ⟨(k : Int) + 1, oc, os, op, oq⟩))) from bk_insert (hI.bk.only o fun _ _ => id) ⟨(k : Int) + 1, oc, os, op, oq⟩ (wf_of2 (by simp only; omega) (by simp only; omega)))
            clear hcell hf hr hI hw0 hw1 hw2 hw3 hw4 hw5 hw6 hw7 hw8 ho hg hri
            go_wp2_with fail
            refine (HD.out _ (by repeat' (first | (with_reducible exact Only.refl _ _) | (with_reducible assumption) | (refine Only.of_none ?_; with_reducible assumption) | (with_reducible refine Only.drewN ?_ _) | (with_reducible refine Only.drew ?_) | (with_reducible refine Only.alloc ?_ _) | (with_reducible refine Only.setCell ?_ ?_ _) | (with_reducible refine Only.then0 ?_ (by with_reducible assumption)) | (with_reducible refine Only.thenN ?_ (by with_reducible assumption) ?_) | (with_reducible refine Only.trans ?_ (by with_reducible assumption)) | (refine .inl ?_; first | rfl | (simp; done) | (simp [Ar.blk]; done)) | (refine .inr ?_; first | omega | (simp; done) | (simp; omega) | exact Only.size (by with_reducible assumption) | (refine Nat.le_trans (Only.size (by with_reducible assumption)) ?_; simp; done))))).mono ?_
            intro e w6 hp
            obtain ⟨T6, rfl, hI6⟩ := HI.out.post HNN.out (by repeat' (first | (with_reducible exact Only.refl _ _) | (with_reducible assumption) | (refine Only.of_none ?_; with_reducible assumption) | (with_reducible refine Only.drewN ?_ _) | (with_reducible refine Only.drew ?_) | (with_reducible refine Only.alloc ?_ _) | (with_reducible refine Only.setCell ?_ ?_ _) | (with_reducible refine Only.then0 ?_ (by with_reducible assumption)) | (with_reducible refine Only.thenN ?_ (by with_reducible assumption) ?_) | (with_reducible refine Only.trans ?_ (by with_reducible assumption)) | (refine .inl ?_; first | rfl | (simp; done) | (simp [Ar.blk]; done)) | (refine .inr ?_; first | omega | (simp; done) | (simp; omega) | exact Only.size (by with_reducible assumption) | (refine Nat.le_trans (Only.size (by with_reducible assumption)) ?_; simp; done)))) hp (k' := k + 1) (HI.out.rise.ins HG.out (o := ⟨(k : Int) + 1, oc, os, op, oq⟩) rfl)
            have HI6 := Lib.hid hI6
            clear hI6 HD hp
            go_wp2_with fail
            go_roundw
            case rel => exact ⟨k + 1, _, T6, by omega, by go_num, HI6.out⟩
            case measure => simp [intOf]; omega
    · have t1 : decide (k < len) = false := by simpa using hlt
      have hg := hI.bk.good
      have HI := Lib.hid hI
      have HG := Lib.hid hg
      clear hI hg
      go_wp2_with fail
      have HK0 := Lib.hid (show k ≤ len from hk)
      obtain ⟨Ws, hWs⟩ : ∃ Ws, wr.alloc (.cells #[.int .u8 1] 24) = Ws := ⟨_, rfl⟩
      have os : Only (fun _ => False) wr Ws := by rw [← hWs]; exact (Only.refl _ _).alloc _
      have cs : Cell Ws wr.heap.size 0 (.int .u8 1) := by rw [← hWs]; exact Cell.new rfl
      rw [hWs]
      obtain ⟨gS, hgS⟩ : ∃ gS, wr.heap.size = gS := ⟨_, rfl⟩
      rw [hgS] at cs
      rw [hgS]
      have hgN : N + 2 ≤ gS := by have := HI.out.c6.lt; have := HI.out.lo; omega
      have I1 := Lib.hid (HI.out.keep os)
      have CS1 := Lib.hid cs
      clear cs os hWs hgS HI hk hlt t1
      obtain ⟨n0, hn0⟩ : ∃ n0 : Int, n0 = 0 := ⟨_, rfl⟩
      refine wp_loop_rounds 3 ?_
      rw [rounds_succ]
      have c5 := I1.out.c5.cell
      have s1 := CS1.out.cell
      have zs1 := cell_lt s1
      have z51 := cell_lt c5
      have HL := Lib.hid fun W (o : Only (fun _ => False) Ws W) => (show Calls Try.prog 25 #[.pointer (some ⟨b, 0, none⟩), .int .u8 1] W (ListPost W (l false)) from bk_list (I1.out.bk.only o fun _ _ => id) false)
      have HD := Lib.hid fun W (o : Only (fun _ => False) Ws W) => (show Calls Try.prog 35 #[.pointer (some ⟨b, 0, none⟩), .int .u8 1, .int .i64 129] W (LvPost W (depthL (l false))) from by
        have := bk_depth (I1.out.bk.only o fun _ _ => id) false 129 (by decide) (by decide)
        rw [List.take_of_length_le (by have h1 := HG.out.dep false; have h2 := HG.out.small.2; omega)] at this
        exact this)
      have HB := Lib.hid fun W (o : Only (fun _ => False) Ws W) => (show Calls Try.prog 36 #[.pointer (some ⟨b, 0, none⟩), .int .u8 1] W (fun e w' => e = .returned (.int .i64 (bestP (l false))) ∧ Only (fun _ => False) W w') from bk_best (I1.out.bk.only o fun _ _ => id) false)
      go_wp2_with fail
      refine (HL.out _ (by repeat' (first | (with_reducible exact Only.refl _ _) | (with_reducible assumption) | (refine Only.of_none ?_; with_reducible assumption) | (with_reducible refine Only.drewN ?_ _) | (with_reducible refine Only.drew ?_) | (with_reducible refine Only.alloc ?_ _) | (with_reducible refine Only.setCell ?_ ?_ _) | (with_reducible refine Only.then0 ?_ (by with_reducible assumption)) | (with_reducible refine Only.thenN ?_ (by with_reducible assumption) ?_) | (with_reducible refine Only.trans ?_ (by with_reducible assumption)) | (refine .inl ?_; first | rfl | (simp; done) | (simp [Ar.blk]; done)) | (refine .inr ?_; first | omega | (simp; done) | (simp; omega) | exact Only.size (by with_reducible assumption) | (refine Nat.le_trans (Only.size (by with_reducible assumption)) ?_; simp; done))))).mono ?_
      intro e w3 hp
      obtain ⟨v, rfl, hv, o3⟩ := hp
      obtain ⟨va, ca, rfl, hca, hat⟩ := OrdAt.of_own hv
      have HAT := Lib.hid hat
      have s3 := (CS1.out.only o3 id).cell
      have zs3 := cell_lt s3
      have A3 := Lib.hid (show Cell (w3.alloc (.cells #[.slice va (l false).length ca] 52)) w3.heap.size 0 (.slice va (l false).length ca) from Cell.new rfl)
      have O3 := Lib.hid o3
      clear hv hat s1 zs1 c5 z51
      go_wp2_with fail
      refine (HD.out _ (by repeat' (first | (with_reducible exact Only.refl _ _) | (with_reducible assumption) | (refine Only.of_none ?_; with_reducible assumption) | (with_reducible refine Only.drewN ?_ _) | (with_reducible refine Only.drew ?_) | (with_reducible refine Only.alloc ?_ _) | (with_reducible refine Only.setCell ?_ ?_ _) | (with_reducible refine Only.then0 ?_ (by with_reducible assumption)) | (with_reducible refine Only.thenN ?_ (by with_reducible assumption) ?_) | (with_reducible refine Only.trans ?_ (by with_reducible assumption)) | (refine .inl ?_; first | rfl | (simp; done) | (simp [Ar.blk]; done)) | (refine .inr ?_; first | omega | (simp; done) | (simp; omega) | exact Only.size (by with_reducible assumption) | (refine Nat.le_trans (Only.size (by with_reducible assumption)) ?_; simp; done))))).mono ?_
      intro e w4 hp
      obtain ⟨v, rfl, hdv, o4⟩ := hp
      obtain ⟨da, dc, rfl, hdc⟩ := own_slice hdv
      have hdv := ownsRow_base hdv (Nat.le_of_lt_succ (by rw [World.size_alloc]; omega) : w3.heap.size + 1 ≤ _)
      have HDV := Lib.hid hdv
      have s4 := ((CS1.out.only o3 id).only (((Only.refl (fun _ => False) w3).alloc _).trans o4) id).cell
      have zs4 := cell_lt s4
      have A4 := Lib.hid (A3.out.only o4 id)
      have O4 := Lib.hid (show Only (fun _ => False) w3 w4 from ((Only.refl (fun _ => False) w3).alloc _).trans o4)
      clear s3 zs3 hdv
      go_wp2_with fail
      refine (HB.out _ (by repeat' (first | (with_reducible exact Only.refl _ _) | (with_reducible assumption) | (refine Only.of_none ?_; with_reducible assumption) | (with_reducible refine Only.drewN ?_ _) | (with_reducible refine Only.drew ?_) | (with_reducible refine Only.alloc ?_ _) | (with_reducible refine Only.setCell ?_ ?_ _) | (with_reducible refine Only.then0 ?_ (by with_reducible assumption)) | (with_reducible refine Only.thenN ?_ (by with_reducible assumption) ?_) | (with_reducible refine Only.trans ?_ (by with_reducible assumption)) | (refine .inl ?_; first | rfl | (simp; done) | (simp [Ar.blk]; done)) | (refine .inr ?_; first | omega | (simp; done) | (simp; omega) | exact Only.size (by with_reducible assumption) | (refine Nat.le_trans (Only.size (by with_reducible assumption)) ?_; simp; done))))).mono ?_
      rintro e w5 ⟨rfl, o5⟩
      have O5 := Lib.hid (show Only (fun _ => False) w3 w5 from O4.out.trans o5)
      have O15 := Lib.hid (show Only (fun _ => False) Ws w5 from O3.out.trans O5.out)
      have I5 := Lib.hid (I1.out.keep O15.out)
      have S5 := Lib.hid (CS1.out.only O15.out id)
      have A5 := Lib.hid (A4.out.only o5 id)
      have DV5 := Lib.hid (ownsRow_apart HDV.out o5 (fun _ _ => id))
      have hzT : ∀ i, T i → i < w3.heap.size := fun i hi => Nat.lt_of_lt_of_le (I1.out.bk.lt i hi) O3.out.size
      have hzS : gS < w3.heap.size := Nat.lt_of_lt_of_le CS1.out.lt O3.out.size
      have hz35 := O5.out.size
      obtain ⟨gA, hgA⟩ : ∃ gA, w3.heap.size = gA := ⟨_, rfl⟩
      have HGA := Lib.hid hgA
      have HZW := Lib.hid (show Ws.heap.size ≤ w3.heap.size from O3.out.size)
      rw [hgA] at A5 DV5 hzT hzS hz35
      rw [hgA]
      have hA5 := A5.out.lt
      have HZT := Lib.hid hzT
      have hNA : N + 2 ≤ gA := by omega
      obtain ⟨L, hL⟩ : ∃ L, L = l false := ⟨_, rfl⟩
      obtain ⟨n, hn⟩ : ∃ n, n = L.length := ⟨_, rfl⟩
      obtain ⟨D, hD⟩ : ∃ D, D = depthL L := ⟨_, rfl⟩
      obtain ⟨md, hmd⟩ : ∃ md, md = D.length := ⟨_, rfl⟩
      obtain ⟨bp, hbp⟩ : ∃ bp, bp = bestP L := ⟨_, rfl⟩
      rw [← hL, ← hn] at A5
      rw [← hL] at HAT
      rw [← hL, ← hD, ← hmd] at DV5
      rw [← hL, ← hbp]
      rw [← hn, ← hD, ← hmd]
      have HL_ := Lib.hid hL; have HN_ := Lib.hid hn; have HD_ := Lib.hid hD; have HM_ := Lib.hid hmd; have HP_ := Lib.hid hbp
      have hn256 : n ≤ 256 := by rw [hn, hL]; exact HG.out.le false
      have hm129 : md ≤ 128 := by rw [hmd, hD, hL]; have h1 := HG.out.dep false; have h2 := HG.out.small.2; omega
      clear O3 O4 o3 o4 o5 A3 A4 HDV hL hn hD hmd hbp s4 zs4 HL HD HB hca hdc hzT hgA
      go_wp2_with fail
      go_loopw [17, 18] (fun s17 s18 wr => ∃ i : Nat, i ≤ n ∧ s18 = .int .i64 i ∧ s17 = .int .i64 (((depthL (L.take i)).length : Int) - 1) ∧ wr.ownsRow (gA + 1) 94 3 (.slice da md dc) md (lvlC (subD D (depthL (L.take i)))) ∧ Only (fun j => (Value.slice da md dc).ownBlock = some j) w5 wr) (fun _ s18 _ => n - (intOf s18).toNat)
      case atStart => exact ⟨0, Nat.zero_le _, rfl, by simp [depthL], by rw [List.take_zero, show depthL [] = [] from rfl, subD_nil]; exact DV5.out, Only.refl _ _⟩
      case round =>
        obtain ⟨i, hi, rfl, e17, hrow, ho⟩ := hrel
        obtain ⟨kk, hkk⟩ : ∃ kk : Int, ((depthL (L.take i)).length : Int) - 1 = kk := ⟨_, rfl⟩
        rw [hkk] at e17
        subst e17
        have HKK := Lib.hid hkk
        clear hkk
        have hgd : ∀ j, (Value.slice da md dc).ownBlock = some j → gA + 1 ≤ j := fun j hj => (DV5.out.lt j hj).1
        have sC := (S5.out.only ho (fun hj => by have := hgd _ hj; omega)).cell
        have aC := (A5.out.only ho (fun hj => by have := hgd _ hj; omega)).cell
        have zsC := cell_lt sC
        have zaC := cell_lt aC
        by_cases hlt : i < n
        · have t1 : decide (i < n) = true := by simpa using hlt
          have i1 : (0 : Int) ≤ (i : Int) ∧ (i : Int) < (n : Int) := by omega
          have w1' : IntKind.i64.wrap ((i : Int) + 1) = (i : Int) + 1 := by rw [IntKind.wrap_i64]; omega
          as_aux_lemma =>
            obtain ⟨o, ho_⟩ : ∃ o, L[i]? = some o := ⟨_, List.getElem?_eq_getElem (by rw [← HN_.out]; exact hlt)⟩
            have hmem : o ∈ l false := by rw [← HL_.out]; exact List.mem_of_getElem? ho_
            have hok := HG.out.ok false o hmem
            have hsd : o.s = 1 := HG.out.side false o hmem
            obtain ⟨k0, hk1, hk2, hcase, x, hx, hxp, hstep⟩ := used_step ho_
            rw [← HD_.out] at hk2 hx hstep
            have hk0 : k0 < md := by
              have := (List.getElem?_eq_some_iff.1 hx).1
              rw [subD_len] at this
              rw [HM_.out]; exact this
            obtain ⟨g, cap, e, hcap, hgA1, hgl, hcells⟩ := ownC hrow (by omega)
            obtain ⟨rfl, rfl⟩ : da = some ⟨g, 0, none⟩ ∧ dc = cap := by injection e with e1 e2 e3; exact ⟨e1, e3⟩
            obtain ⟨x0_, x1_, x2_⟩ := lvlC_at hx
            have d0 := hcells _ _ x0_; have d1 := hcells _ _ x1_; have d2 := hcells _ _ x2_
            have ATr := HAT.out.only ((Only.of_none O5.out).trans ho) (fun j hj hb => by have := hgd j hb; have := HGA.out; omega)
            obtain ⟨ga, rfl, hga, b0, b1, b2, b3, b4⟩ := ATr i o ho_
            have HY := Lib.hid fun j y (hy : L[j]? = some y) => (show wr.cell? ⟨ga, j * 5, none⟩ = some (.int .i64 y.i) ∧ wr.cell? ⟨ga, j * 5 + 3, none⟩ = some (.int .i64 y.p) from by
              obtain ⟨ga', e', _, c0, _, _, c3, _⟩ := ATr j y hy
              injection e' with e'; injection e' with e'
              subst e'
              exact ⟨c0, c3⟩)
            have HASC := Lib.hid (fun y (hy : L[i - 1]? = some y) (h0 : 0 < i) => (show (y.p = o.p → y.i < o.i) ∧ sgn false * y.p ≤ sgn false * o.p from by
              have h1 := I5.out.rise.asc false; have h2 := HG.out.srt false
              rw [← HL_.out] at h1 h2
              rw [List.pairwise_iff_getElem] at h1 h2
              obtain ⟨l1, e1⟩ := List.getElem?_eq_some_iff.1 hy
              obtain ⟨l2, e2⟩ := List.getElem?_eq_some_iff.1 ho_
              have a1 := h1 (i - 1) i l1 l2 (by omega)
              have a2 := h2 (i - 1) i l1 l2 (by omega)
              rw [e1, e2] at a1 a2
              exact ⟨a1, a2⟩))
            obtain ⟨oi, oc, os, op, oq⟩ := o
            simp only at b0 b1 b2 b3 b4 hsd hok hk2 hxp hcase hstep HASC
            subst hsd
            have hoq : 1 ≤ oq ∧ oq ≤ 1000000000 := hok.2.2.2.2.2.2
            have t3 : decide (oq < 1) = false := by simp; omega
            have HK1 := Lib.hid (⟨hk1, hstep, hx⟩ : _ ∧ _ ∧ _)
            have HBND := Lib.hid (show (-256000000000 ≤ x.q ∧ x.q ≤ 256000000000 ∧ -256 ≤ x.n ∧ x.n ≤ 256) from by
              have hq : ∀ o ∈ L, 1 ≤ o.q ∧ o.q ≤ 1000000000 := by rw [HL_.out]; exact HG.out.qs false
              refine subD_bd (fun d hd => ?_) (fun d hd => ?_) x (List.mem_of_getElem? hx)
              · rw [HD_.out] at hd
                have := dep_bd hq d hd
                have := HN_.out; omega
              · have := dep_bd (l := L.take i) (fun o ho => hq o (List.mem_of_mem_take ho)) d hd
                have h2 : (L.take i).length ≤ 256 := by rw [List.length_take]; have := HN_.out; omega
                omega)
            have HCS := Lib.hid hcase
            have HD3 := Lib.hid (⟨d0, d1, d2⟩ : _ ∧ _ ∧ _)
            have HRO := Lib.hid hrow
            have HO := Lib.hid ho
            have HOK := Lib.hid hok
            have HHO := Lib.hid ho_
            have F0 := Five.new wr (.int .i64 oi) (.int .i64 oc) (.int .u8 1) (.int .i64 op) (.int .i64 oq) 54
            clear ATr hk1 hstep hcase hrow ho hok ho_ hcells x0_ x1_ x2_ d0 d1 d2 e hmem
            go_upto_region 32 with fail
            obtain ⟨W1, hW1⟩ : ∃ W1, wr.alloc (.cells #[.int .i64 oi, .int .i64 oc, .int .u8 1, .int .i64 op, .int .i64 oq] 54) = W1 := ⟨_, rfl⟩
            have O1 : Only (fun _ => False) wr W1 := by rw [← hW1]; exact (Only.refl _ _).alloc _
            rw [hW1] at F0 ⊢
            obtain ⟨go, hgo⟩ : ∃ go, wr.heap.size = go := ⟨_, rfl⟩
            have hggo : g < wr.heap.size := hgl
            rw [hgo] at F0 hggo
            rw [hgo]
            have ag := (A5.out.only (HO.out.trans (Only.of_none O1)) (fun hj => by have := hgd _ hj; omega)).cell
            have sg := (S5.out.only (HO.out.trans (Only.of_none O1)) (fun hj => by have := hgd _ hj; omega)).cell
            have zag := cell_lt ag
            have zsg := cell_lt sg
            have y0 := F0.c0.cell; have y1 := F0.c1.cell; have y2 := F0.c2.cell; have y3 := F0.c3.cell; have y4 := F0.c4.cell
            have zy := cell_lt y0
            have d0' := (HD3.out.1.only O1 id).cell
            rw [hxp] at d0'
            have HF0 := Lib.hid F0
            have HO1 := Lib.hid O1
            have q1 : decide ((md : Int) ≤ (k0 : Int)) = false := by simp; omega
            have q2 : decide (md ≤ k0) = false := by simp; omega
            have q3 : (0 : Int) ≤ (k0 : Int) ∧ (k0 : Int) < (md : Int) := by omega
            clear aC sC zsC zaC zag zsg F0 O1 hW1 hgo b0 b1 b2 b3 b4 t3 hoq hxp
            obtain ⟨B, hcb⟩ : ∃ B : Bool, (B = false ∧ ((∃ y, L[i - 1]? = some y ∧ 0 < i ∧ y.p = op) ∧ (depthL (L.take i)).length = k0 + 1)) ∨ (B = true ∧ ((∀ y, 0 < i → L[i - 1]? = some y → y.p ≠ op) ∧ (depthL (L.take i)).length = k0)) := by
              rcases HCS.out with h | h
              · exact ⟨false, .inl ⟨rfl, h⟩⟩
              · exact ⟨true, .inr ⟨rfl, h⟩⟩
            have HCB := Lib.hid hcb
            clear hcb HCS
            go_cut [127] from 115 to 126 (fun s127 wc => s127 = .bool B ∧ Only (fun _ => False) W1 wc)
            case first =>
              as_aux_lemma =>
                rcases HCB.out with ⟨rfl, ⟨y, hy, h0, hyp⟩, hlen⟩ | ⟨rfl, hne, hlen⟩
                · obtain ⟨j, hj⟩ : ∃ j, j = i - 1 := ⟨_, rfl⟩
                  obtain ⟨c0, c3⟩ := HY.out (i - 1) y hy
                  have c3' := HO1.out.cell c3 id
                  rw [hyp] at c3'
                  rw [← hj] at c3'
                  have zc := cell_lt c3'
                  have t4 : ((i : Int) == 0) = false := by simp; omega
                  have t4' : (i == 0) = false := by simp; omega
                  have wm : IntKind.i64.wrap ((i : Int) - 1) = (j : Int) := by rw [IntKind.wrap_i64]; omega
                  have ij : (0 : Int) ≤ (j : Int) ∧ (j : Int) < (n : Int) := by omega
                  clear hy h0 hyp hlen c0 c3 hj
                  go_quiet (fail)
                  go_wp2_with fail
                  go_meet
                  exact ⟨rfl, by repeat' (first | (with_reducible exact Only.refl _ _) | (with_reducible assumption) | (refine Only.of_none ?_; with_reducible assumption) | (with_reducible refine Only.drewN ?_ _) | (with_reducible refine Only.drew ?_) | (with_reducible refine Only.alloc ?_ _) | (with_reducible refine Only.setCell ?_ ?_ _) | (with_reducible refine Only.then0 ?_ (by with_reducible assumption)) | (with_reducible refine Only.thenN ?_ (by with_reducible assumption) ?_) | (with_reducible refine Only.trans ?_ (by with_reducible assumption)) | (refine .inl ?_; first | rfl | (simp; done) | (simp [Ar.blk]; done)) | (refine .inr ?_; first | omega | (simp; done) | (simp; omega) | exact Only.size (by with_reducible assumption) | (refine Nat.le_trans (Only.size (by with_reducible assumption)) ?_; simp; done)))⟩
                · by_cases h0 : i = 0
                  · have t4 : ((i : Int) == 0) = true := by simp; omega
                    have t4' : (i == 0) = true := by simp; omega
                    clear hne hlen h0
                    go_quiet (fail)
                    go_wp2_with fail
                    go_meet
                    exact ⟨rfl, by repeat' (first | (with_reducible exact Only.refl _ _) | (with_reducible assumption) | (refine Only.of_none ?_; with_reducible assumption) | (with_reducible refine Only.drewN ?_ _) | (with_reducible refine Only.drew ?_) | (with_reducible refine Only.alloc ?_ _) | (with_reducible refine Only.setCell ?_ ?_ _) | (with_reducible refine Only.then0 ?_ (by with_reducible assumption)) | (with_reducible refine Only.thenN ?_ (by with_reducible assumption) ?_) | (with_reducible refine Only.trans ?_ (by with_reducible assumption)) | (refine .inl ?_; first | rfl | (simp; done) | (simp [Ar.blk]; done)) | (refine .inr ?_; first | omega | (simp; done) | (simp; omega) | exact Only.size (by with_reducible assumption) | (refine Nat.le_trans (Only.size (by with_reducible assumption)) ?_; simp; done)))⟩
                  · obtain ⟨y, hy⟩ : ∃ y, L[i - 1]? = some y := ⟨_, List.getElem?_eq_getElem (by rw [← HN_.out]; omega)⟩
                    obtain ⟨j, hj⟩ : ∃ j, j = i - 1 := ⟨_, rfl⟩
                    obtain ⟨c0, c3⟩ := HY.out (i - 1) y hy
                    have c3' := HO1.out.cell c3 id
                    rw [← hj] at c3'
                    have zc := cell_lt c3'
                    have hyp := hne y (by omega) hy
                    have t4 : ((i : Int) == 0) = false := by simp; omega
                    have t4' : (i == 0) = false := by simp; omega
                    have wm : IntKind.i64.wrap ((i : Int) - 1) = (j : Int) := by rw [IntKind.wrap_i64]; omega
                    have ij : (0 : Int) ≤ (j : Int) ∧ (j : Int) < (n : Int) := by omega
                    have t6 : (y.p != op) = true := by simpa using hyp
                    obtain ⟨yi, yc, ys, yp, yq⟩ := y
                    simp only at c3' t6
                    clear hy h0 hyp hlen c0 c3 hj hne
                    go_quiet (fail)
                    go_wp2_with fail
                    go_meet
                    exact ⟨rfl, by repeat' (first | (with_reducible exact Only.refl _ _) | (with_reducible assumption) | (refine Only.of_none ?_; with_reducible assumption) | (with_reducible refine Only.drewN ?_ _) | (with_reducible refine Only.drew ?_) | (with_reducible refine Only.alloc ?_ _) | (with_reducible refine Only.setCell ?_ ?_ _) | (with_reducible refine Only.then0 ?_ (by with_reducible assumption)) | (with_reducible refine Only.thenN ?_ (by with_reducible assumption) ?_) | (with_reducible refine Only.trans ?_ (by with_reducible assumption)) | (refine .inl ?_; first | rfl | (simp; done) | (simp [Ar.blk]; done)) | (refine .inr ?_; first | omega | (simp; done) | (simp; omega) | exact Only.size (by with_reducible assumption) | (refine Nat.le_trans (Only.size (by with_reducible assumption)) ?_; simp; done)))⟩
            case rest =>
            obtain ⟨rfl, oB⟩ := hcut
            have OB := Lib.hid (HO1.out.trans oB)
            have F0 := HF0.out.only oB id
            have ag := oB.cell ag id
            have sg := oB.cell sg id
            have zag := cell_lt ag
            have zsg := cell_lt sg
            have y0 := F0.c0.cell; have y1 := F0.c1.cell; have y2 := F0.c2.cell; have y3 := F0.c3.cell; have y4 := F0.c4.cell
            have zy := cell_lt y0
            have d0' := oB.cell d0' id
            have HF1 := Lib.hid F0
            clear F0 oB
            go_upto_if 127 with fail
            go_cut [17] from 127 to 169 (fun s17 wc' => s17 = .int .i64 (k0 : Nat) ∧ Only (fun _ => False) wc wc')
            case first =>
              as_aux_lemma =>
                rcases HCB.out with ⟨rfl, ⟨y, hy, h0, hyp⟩, hlen⟩ | ⟨rfl, hne, hlen⟩
                · obtain ⟨j, hj⟩ : ∃ j, j = i - 1 := ⟨_, rfl⟩
                  obtain ⟨c0, c3⟩ := HY.out (i - 1) y hy
                  have c0' := OB.out.cell c0 id
                  rw [← hj] at c0'
                  have zc := cell_lt c0'
                  have hlt2 := (HASC.out y hy h0).1 hyp
                  have wm : IntKind.i64.wrap ((i : Int) - 1) = (j : Int) := by rw [IntKind.wrap_i64]; omega
                  have ij : (0 : Int) ≤ (j : Int) ∧ (j : Int) < (n : Int) := by omega
                  have t5 : decide (oi ≤ y.i) = false := by simp; omega
                  have hkk := HKK.out
                  obtain rfl : kk = (k0 : Int) := by omega
                  obtain ⟨yi, yc, ys, yp, yq⟩ := y
                  simp only at c0' t5
                  clear hkk hy h0 hyp hlen c0 c3 hlt2 hj
                  go_wp2_with fail
                  go_quiet (fail)
                  go_wp2_with fail
                  go_meet
                  exact ⟨rfl, by repeat' (first | (with_reducible exact Only.refl _ _) | (with_reducible assumption) | (refine Only.of_none ?_; with_reducible assumption) | (with_reducible refine Only.drewN ?_ _) | (with_reducible refine Only.drew ?_) | (with_reducible refine Only.alloc ?_ _) | (with_reducible refine Only.setCell ?_ ?_ _) | (with_reducible refine Only.then0 ?_ (by with_reducible assumption)) | (with_reducible refine Only.thenN ?_ (by with_reducible assumption) ?_) | (with_reducible refine Only.trans ?_ (by with_reducible assumption)) | (refine .inl ?_; first | rfl | (simp; done) | (simp [Ar.blk]; done)) | (refine .inr ?_; first | omega | (simp; done) | (simp; omega) | exact Only.size (by with_reducible assumption) | (refine Nat.le_trans (Only.size (by with_reducible assumption)) ?_; simp; done)))⟩
                · have wk : IntKind.i64.wrap (kk + 1) = (k0 : Int) := by have hkk := HKK.out; rw [IntKind.wrap_i64]; omega
                  by_cases h0 : i = 0
                  · have t5 : decide ((0 : Int) < (i : Int)) = false := by simp; omega
                    have t5' : decide (0 < i) = false := by simp; omega
                    clear hne hlen h0
                    go_wp2_with fail
                    go_quiet (fail)
                    go_wp2_with fail
                    go_meet
                    exact ⟨rfl, by repeat' (first | (with_reducible exact Only.refl _ _) | (with_reducible assumption) | (refine Only.of_none ?_; with_reducible assumption) | (with_reducible refine Only.drewN ?_ _) | (with_reducible refine Only.drew ?_) | (with_reducible refine Only.alloc ?_ _) | (with_reducible refine Only.setCell ?_ ?_ _) | (with_reducible refine Only.then0 ?_ (by with_reducible assumption)) | (with_reducible refine Only.thenN ?_ (by with_reducible assumption) ?_) | (with_reducible refine Only.trans ?_ (by with_reducible assumption)) | (refine .inl ?_; first | rfl | (simp; done) | (simp [Ar.blk]; done)) | (refine .inr ?_; first | omega | (simp; done) | (simp; omega) | exact Only.size (by with_reducible assumption) | (refine Nat.le_trans (Only.size (by with_reducible assumption)) ?_; simp; done)))⟩
                  · obtain ⟨y, hy⟩ : ∃ y, L[i - 1]? = some y := ⟨_, List.getElem?_eq_getElem (by rw [← HN_.out]; omega)⟩
                    obtain ⟨j, hj⟩ : ∃ j, j = i - 1 := ⟨_, rfl⟩
                    obtain ⟨c0, c3⟩ := HY.out (i - 1) y hy
                    have c3' := OB.out.cell c3 id
                    rw [← hj] at c3'
                    have zc := cell_lt c3'
                    have hyp := hne y (by omega) hy
                    have hlt2 := (HASC.out y hy (by omega)).2
                    have t5 : decide ((0 : Int) < (i : Int)) = true := by simp; omega
                    have t5' : decide (0 < i) = true := by simp; omega
                    have wm : IntKind.i64.wrap ((i : Int) - 1) = (j : Int) := by rw [IntKind.wrap_i64]; omega
                    have ij : (0 : Int) ≤ (j : Int) ∧ (j : Int) < (n : Int) := by omega
                    have HBT := fun W => Lib.hid (show Calls Try.prog 37 #[.int .u8 1, .int .i64 y.p, .int .i64 op] W (fun e w' => e = .returned (.bool true) ∧ W = w') from by
                      have := k_better W false y.p op
                      rw [show decide (sgn false * y.p < sgn false * op) = true from decide_eq_true (by rcases Int.lt_or_eq_of_le hlt2 with h | h; exact h; simp [sgn] at h; omega)] at this
                      exact this)
                    obtain ⟨yi, yc, ys, yp, yq⟩ := y
                    simp only at c3' HBT
                    clear hy h0 hyp hlen c0 c3 hlt2 hj hne
                    go_wp2_with fail
                    go_quiet ((go_at_call 37; exact Calls.quiet_of_same ((HBT _).out.mono fun e w' ⟨h1, h2⟩ => ⟨h1, h2.symm⟩)))
                    go_wp2_with fail
                    go_meet
                    exact ⟨rfl, by repeat' (first | (with_reducible exact Only.refl _ _) | (with_reducible assumption) | (refine Only.of_none ?_; with_reducible assumption) | (with_reducible refine Only.drewN ?_ _) | (with_reducible refine Only.drew ?_) | (with_reducible refine Only.alloc ?_ _) | (with_reducible refine Only.setCell ?_ ?_ _) | (with_reducible refine Only.then0 ?_ (by with_reducible assumption)) | (with_reducible refine Only.thenN ?_ (by with_reducible assumption) ?_) | (with_reducible refine Only.trans ?_ (by with_reducible assumption)) | (refine .inl ?_; first | rfl | (simp; done) | (simp [Ar.blk]; done)) | (refine .inr ?_; first | omega | (simp; done) | (simp; omega) | exact Only.size (by with_reducible assumption) | (refine Nat.le_trans (Only.size (by with_reducible assumption)) ?_; simp; done)))⟩
            case rest =>
            obtain ⟨rfl, oC⟩ := hcut
            have oWC : Only (fun _ => False) wr wc := OB.out.trans oC
            have OWC := Lib.hid oWC
            have e1 := (HD3.out.2.1.only oWC id).cell; have e1f := (HD3.out.2.1.only oWC id).free
            have e2 := (HD3.out.2.2.only oWC id).cell; have e2f := (HD3.out.2.2.only oWC id).free
            have F0 := HF1.out.only oC id
            have y0 := F0.c0.cell; have y1 := F0.c1.cell; have y2 := F0.c2.cell; have y3 := F0.c3.cell; have y4 := F0.c4.cell
            have zy := cell_lt y0
            have zg := cell_lt e1
            have HF2 := Lib.hid F0
            have HGET := Lib.hid fun W (o : Only (fun j => (Value.slice (some ⟨g, 0, none⟩) md dc).ownBlock = some j) w5 W) => (show Calls Try.prog 32 #[.pointer (some ⟨b, 0, none⟩), .int .i64 oi] W (fun e w' => e = .returned (.tuple #[.agg #[.int .i64 oi, .int .i64 oc, .int .u8 1, .int .i64 op, .int .i64 oq], .bool true]) ∧ Only (fun _ => False) W w') from by
              have hm : (⟨oi, oc, 1, op, oq⟩ : OrdR) ∈ l false := by rw [← HL_.out]; exact List.mem_of_getElem? HHO.out
              have := bk_get (I5.out.bk.only o (fun i hi hb => by have := HZT.out i hi; have := hgd i hb; omega)) oi (wf_of2 (by have := HOK.out.1; simp only at this; omega) HOK.out.2.1)
              rw [getL_mem HG.out.ids hm] at this
              exact this)
            obtain ⟨xp, xq, xn⟩ := x
            simp only at e1 e2
            have hbnd := HBND.out
            simp only at hbnd
            have hoq : 1 ≤ oq ∧ oq ≤ 1000000000 := HOK.out.2.2.2.2.2.2
            have wq : IntKind.i64.wrap (xq - oq) = xq - oq := by rw [IntKind.wrap_i64]; omega
            have wn : IntKind.i64.wrap (xn - 1) = xn - 1 := by rw [IntKind.wrap_i64]; omega
            have HO5 := Lib.hid (show Only (fun j => (Value.slice (some ⟨g, 0, none⟩) md dc).ownBlock = some j) w5 wc from HO.out.trans (Only.of_none oWC))
            clear F0 oWC oC d0' ag sg zag zsg hbnd
            go_upto_region 38 with fail
            go_still_tail 12, (by kernel_rfl)
            change wpList _ _ _ _ _ wc.drew
            go_wp2_with fail
            have SETS := (((Only.refl (· = g) wc).setCell (p := ⟨g, k0 * 3 + 1, none⟩) (.inl rfl) (.int .i64 (xq - oq))).setCell (p := ⟨g, k0 * 3 + 2, none⟩) (.inl rfl) (.int .i64 (xn - 1))).drew
            have HSETS := Lib.hid SETS
            refine (HGET.out _ (HO5.out.trans (SETS.mono fun _ _ h => by rw [h]; rfl))).mono ?_
            rintro e w6 ⟨rfl, o6⟩
            have F6 := (HF2.out.only SETS (by omega)).only o6 id
            have y0 := F6.c0.cell; have y1 := F6.c1.cell; have y2 := F6.c2.cell; have y3 := F6.c3.cell; have y4 := F6.c4.cell
            have zy := cell_lt y0
            have HO6 := Lib.hid o6
            clear e1 e1f e2 e2f zg wq wn F6 SETS
            go_wp2_with fail
            go_roundw
            case rel =>
              obtain ⟨hk1, hstep, hx⟩ := HK1.out
              refine ⟨i + 1, by omega, by go_num, by rw [hk1]; congr 1; omega, ?_, ?_⟩
              · have hlk : k0 < md := q3.2 |> Int.ofNat_lt.1
                have R0 := ownsRow_apart HRO.out OWC.out (fun _ _ => id)
                have R1 := own_set (own_set R0 rfl (off := k0 * 3 + 1) (by omega) (.int .i64 (xq - oq))) rfl (off := k0 * 3 + 2) (by omega) (.int .i64 (xn - 1))
                rw [hstep, lvlC_setAt _ _ hx]
                exact ownsRow_apart R1 ((((Only.refl (fun _ => False) _).drew).trans HO6.out).alloc _) (fun _ _ => id)
              · exact (HO5.out.trans (HSETS.out.mono fun _ _ h => by rw [h]; rfl)).trans (Only.of_none (HO6.out.alloc _))
            case measure => simp [intOf]; omega
        · have t1 : decide (i < n) = false := by simpa using hlt
          have hin : i = n := by omega
          subst hin
          have htk : L.take i = L := List.take_of_length_le (by rw [← HN_.out]; exact Nat.le_refl _)
          have hkm : kk = (md : Int) - 1 := by rw [← HKK.out, htk, ← HD_.out, ← HM_.out]
          rw [htk, ← HD_.out] at hrow
          have wk : IntKind.i64.wrap (kk + 1) = (md : Int) := by rw [IntKind.wrap_i64]; omega
          have HRO := Lib.hid hrow
          have HO := Lib.hid ho
          have ATr := HAT.out.only ((Only.of_none O5.out).trans ho) (fun j hj hb => by have := hgd j hb; have := HGA.out; omega)
          have HATR := Lib.hid ATr
          have hbest : (i = 0 ∧ bp = 0) ∨ (0 < i ∧ ∃ ga, va = some ⟨ga, 0, none⟩ ∧ wr.cell? ⟨ga, 3, none⟩ = some (.int .i64 bp)) := by
            have hp := HP_.out; have hl := HN_.out
            cases hL : L with
            | nil => rw [hL] at hp hl; exact .inl ⟨hl, hp⟩
            | cons o t =>
              rw [hL] at hp hl
              right
              obtain ⟨ga, e, _, _, _, _, c3, _⟩ := ATr 0 o (by rw [hL]; rfl)
              refine ⟨by rw [hl]; simp, ga, e, ?_⟩
              rw [hp]
              rw [Nat.zero_mul, Nat.zero_add] at c3
              exact c3
          have HBE := Lib.hid hbest
          clear hbest ATr hkm htk hrow ho hi hlt HKK
          go_upto_region 43 with fail
          go_cut [230] from 204 to 229 (fun s230 wc => s230 = .bool false ∧ Only (fun _ => False) wr wc)
          case first =>
            as_aux_lemma =>
              rcases HBE.out with ⟨h0, h1⟩ | ⟨h0, ga, rfl, c3⟩
              · subst h1
                have t2 : decide ((0 : Int) < (i : Int)) = false := by simp; omega
                have t2' : decide (0 < i) = false := by simp; omega
                have t3 : ((i : Int) == 0) = true := by simp; omega
                have t3' : (i == 0) = true := by simp; omega
                clear h0
                go_wp2_with fail
                go_meet
                exact ⟨rfl, by repeat' (first | (with_reducible exact Only.refl _ _) | (with_reducible assumption) | (refine Only.of_none ?_; with_reducible assumption) | (with_reducible refine Only.drewN ?_ _) | (with_reducible refine Only.drew ?_) | (with_reducible refine Only.alloc ?_ _) | (with_reducible refine Only.setCell ?_ ?_ _) | (with_reducible refine Only.then0 ?_ (by with_reducible assumption)) | (with_reducible refine Only.thenN ?_ (by with_reducible assumption) ?_) | (with_reducible refine Only.trans ?_ (by with_reducible assumption)) | (refine .inl ?_; first | rfl | (simp; done) | (simp [Ar.blk]; done)) | (refine .inr ?_; first | omega | (simp; done) | (simp; omega) | exact Only.size (by with_reducible assumption) | (refine Nat.le_trans (Only.size (by with_reducible assumption)) ?_; simp; done)))⟩
              · have t2 : decide ((0 : Int) < (i : Int)) = true := by simp; omega
                have t2' : decide (0 < i) = true := by simp; omega
                have t3 : ((i : Int) == 0) = false := by simp; omega
                have t3' : (i == 0) = false := by simp; omega
                have ij : (0 : Int) ≤ (0 : Int) ∧ (0 : Int) < (i : Int) := by omega
                have zc := cell_lt c3
                clear h0
                go_wp2_with fail
                go_meet
                exact ⟨rfl, by repeat' (first | (with_reducible exact Only.refl _ _) | (with_reducible assumption) | (refine Only.of_none ?_; with_reducible assumption) | (with_reducible refine Only.drewN ?_ _) | (with_reducible refine Only.drew ?_) | (with_reducible refine Only.alloc ?_ _) | (with_reducible refine Only.setCell ?_ ?_ _) | (with_reducible refine Only.then0 ?_ (by with_reducible assumption)) | (with_reducible refine Only.thenN ?_ (by with_reducible assumption) ?_) | (with_reducible refine Only.trans ?_ (by with_reducible assumption)) | (refine .inl ?_; first | rfl | (simp; done) | (simp [Ar.blk]; done)) | (refine .inr ?_; first | omega | (simp; done) | (simp; omega) | exact Only.size (by with_reducible assumption) | (refine Nat.le_trans (Only.size (by with_reducible assumption)) ?_; simp; done)))⟩
          case rest =>
          obtain ⟨rfl, oC⟩ := hcut
          have OWC := Lib.hid oC
          have sC := oC.cell sC id
          have aC := oC.cell aC id
          have zsC := cell_lt sC
          have zaC := cell_lt aC
          clear oC t1 wk HBE
          go_wp2_with fail
          go_loopw [22] (fun s wq => ∃ j : Nat, j ≤ md ∧ s = .int .i64 j ∧ Only (fun _ => False) wc wq) (fun s _ => md - (intOf s).toNat)
          case atStart => exact ⟨0, Nat.zero_le _, rfl, Only.refl _ _⟩
          case round =>
            obtain ⟨wq, rfl⟩ : ∃ wq : World, wq = wr := ⟨_, rfl⟩
            obtain ⟨j, hj, rfl, ho4⟩ := hrel
            have HO4 := Lib.hid ho4
            have sC := ho4.cell sC id
            have aC := ho4.cell aC id
            have zsC := cell_lt sC
            have zaC := cell_lt aC
            by_cases hjl : j < md
            · have t1 : decide (j < md) = true := by simpa using hjl
              have w1' : IntKind.i64.wrap ((j : Int) + 1) = (j : Int) + 1 := by rw [IntKind.wrap_i64]; omega
              have ij : (0 : Int) ≤ (j : Int) ∧ (j : Int) < (md : Int) := by omega
              have hr4 := ownsRow_apart HRO.out (OWC.out.trans ho4) (fun _ _ => id)
              obtain ⟨g, cap, e, _, _, hgl, hcells⟩ := ownC hr4 (by omega)
              obtain ⟨rfl, rfl⟩ : da = some ⟨g, 0, none⟩ ∧ dc = cap := by injection e with e1 e2 e3; exact ⟨e1, e3⟩
              obtain ⟨x, hx⟩ : ∃ x, (subD D D)[j]? = some x := ⟨_, List.getElem?_eq_getElem (by rw [subD_len, ← HM_.out]; exact hjl)⟩
              obtain ⟨z1, z2⟩ := subD_self D x (List.mem_of_getElem? hx)
              obtain ⟨_, e1, e2⟩ := lvlC_at hx
              have d1 := (hcells _ _ e1).cell
              have d2 := (hcells _ _ e2).cell
              rw [z1] at d1
              rw [z2] at d2
              clear e1 e2 hcells e hr4 ho4 hx z1 z2
              go_wp2_with fail
              go_roundw
              case rel => exact ⟨j + 1, by omega, by go_num, HO4.out⟩
              case measure => simp [intOf]; omega
            · have t1 : decide (j < md) = false := by simpa using hjl
              have OQ := Lib.hid (show Only (fun j => (Value.slice da md dc).ownBlock = some j) w5 wq from (HO.out.trans (Only.of_none OWC.out)).trans (Only.of_none ho4))
              have hzq : w5.heap.size ≤ wq.heap.size := OQ.out.size
              have HWQ := Lib.hid (OWC.out.trans ho4)
              have c5 := I5.out.c5.only OQ.out (fun h => by have := hgd _ h; omega)
              have c6 := I5.out.c6.only OQ.out (fun h => by have := hgd _ h; omega)
              have c5c := c5.cell
              have z5c := cell_lt c5c
              have HCQ := Lib.hid (show Cell wq gS 0 (.int .u8 1) ∧ Cell wq gA 0 (.slice va i ca) ∧ Cell wq N 0 (.int .i64 lim) ∧ Cell wq (N + 1) 0 (.bool false) from ⟨S5.out.only OQ.out (fun h => by have := hgd _ h; omega), A5.out.only OQ.out (fun h => by have := hgd _ h; omega), c5, c6⟩)
              clear hj hjl ho4 HO4 c5 c6
              go_wp2_with fail
              clear t1
              refine (k_facing _ b 2 lim).mono ?_
              intro e Wc hp
              obtain ⟨Bs, Bb, Bl, rfl, oc, cs, cb, cl, gs, gb, gl'⟩ := hp
              have ci := (Cell.new (w := wq) (cs := #[.int .i64 0]) (t := 3) (v := .int .i64 0) (o := 0) rfl).only oc id
              have oa : Only (fun _ => False) wq Wc := ((Only.refl _ wq).alloc _).trans oc
              simp only [World.size_alloc] at gs gb gl'
              obtain ⟨gI, hgI⟩ : ∃ gI, wq.heap.size = gI := ⟨_, rfl⟩
              rw [hgI] at ci gs gb gl' hzq
              rw [hgI]
              have HGI := Lib.hid hgI
              have HOA := Lib.hid oa
              have HCW := Lib.hid (show Cell Wc gS 0 (.int .u8 1) ∧ Cell Wc gA 0 (.slice va i ca) ∧ Cell Wc N 0 (.int .i64 lim) ∧ Cell Wc (N + 1) 0 (.bool false) from ⟨HCQ.out.1.only oa id, HCQ.out.2.1.only oa id, HCQ.out.2.2.1.only oa id, HCQ.out.2.2.2.only oa id⟩)
              have HSEQ1 := Lib.hid (bk_fac_iter (I5.out.bk.only (OQ.out.trans (Only.of_none oa)) (fun i hi hb => by have := HZT.out i hi; have := hgd i hb; omega)) 2 lim cs cb cl)
              rw [show facO l 2 lim = facL (sgn false) lim (l false) from rfl, ← HL_.out] at HSEQ1
              have hfp := fac_parts (sg := sgn false) (lim := lim) (L := L) (by rw [HL_.out]; exact HG.out.srt false)
              obtain ⟨xs, hxs⟩ : ∃ xs, xs = facL (sgn false) lim L := ⟨_, rfl⟩
              rw [← hxs] at HSEQ1 hfp
              obtain ⟨D2, hf1, hf2, hf3⟩ := hfp
              have HF1 := Lib.hid hf1
              have HF2 := Lib.hid hf2
              have HF3 := Lib.hid hf3
              have HKK3 := Lib.hid (⟨cs.lt, cb.lt, cl.lt⟩ : _ ∧ _ ∧ _)
              have HATW := Lib.hid (show OrdAt Wc va L from HATR.out.only (HWQ.out.trans oa) (fun _ _ => id))
              have HATQ := Lib.hid (show OrdAt wq va L from HATR.out.only HWQ.out (fun _ _ => id))
              have zIc := ci.lt
              have hSI : gS < gI := by have := HCQ.out.1.lt; rw [HGI.out] at this; exact this
              have hAI : gA < gI := by have := HCQ.out.2.1.lt; rw [HGI.out] at this; exact this
              have hNI : N + 1 < gI := by have := HCQ.out.2.2.2.lt; rw [HGI.out] at this; exact this
              clear hxs hf1 hf2 hf3 cs cb cl oc oa hgI sC aC zsC zaC c5c z5c
              go_wp2_with fail
              refine (wpIn_wide (n := 0)).1 ?_
              refine rangeT (gf := 112) (lb := #[.pointer (some ⟨Bs, 0, none⟩), .pointer (some ⟨Bb, 0, none⟩), .pointer (some ⟨Bl, 0, none⟩)]) rfl (enters_of Try.func112 (by kernel_rfl) rfl)
                HSEQ1.out (fun _ => rfl) (Nat.le_refl _) (KeepB.refl _ _) ?hK
                (FcI Wc gI) (fun _ _ _ _ => False) (· = gI) ?hT ?hI (fun _ _ _ _ _ _ h _ _ => h.elim) ⟨rfl, ci, Only.refl _ _⟩ ?round ?done ?stop
              case hK =>
                rintro j (hi | rfl | rfl | rfl)
                · have := HZT.out j hi; have := zIc; omega
                · exact HKK3.out.1
                · exact HKK3.out.2.1
                · exact HKK3.out.2.2
              case hT =>
                rintro s' T' A ⟨rfl, h4, ho⟩ j rfl
                refine ⟨?_, h4.lt⟩
                rintro (hk | hk | hk | hk)
                · have := HZT.out _ hk; omega
                all_goals omega
              case hI =>
                rintro s' T' A B S ⟨rfl, h4, ho⟩ hAB hS
                exact ⟨rfl, h4.only hAB (fun h => (hS _ h).1 rfl), ho.trans' hAB (fun i h1 h2 => by have := (hS i h2).2; omega)⟩
              case round =>
                as_aux_lemma =>
                  intro l1 s' T' x A hl1 hszA hrec hTl hi hpre
                  have hat : L[s'.length]? = some x := pre_at (hpre.trans (by rw [HF1.out]; exact List.prefix_append _ _))
                  have hxf : lim ≠ 0 → sgn false * x.p ≤ sgn false * lim := fun h => HF2.out h x (hpre.subset (by simp))
                  obtain ⟨oi, oc, os, op, oq⟩ := x
                  unfold encO ordV
                  gi_wp2
                  refine ⟨(Only.refl _ A).alloc _, fun A1 hi1 o1 hr1 => ?_⟩
                  try intro hr2
                  have hlA : l1 < A.heap.size := by obtain ⟨r, hr⟩ := hrec; exact (Array.getElem?_eq_some_iff.1 hr).1
                  have h5 := (Five.new A (.int .i64 oi) (.int .i64 oc) (.int .u8 os) (.int .i64 op) (.int .i64 oq) 54).only o1 (show ¬ A.heap.size = l1 by omega)
                  have d1 := h5.c0.cell; have d2 := h5.c1.cell; have d3 := h5.c2.cell; have d4 := h5.c3.cell; have d5 := h5.c4.cell
                  have zd := cell_lt d1
                  obtain ⟨rfl, k4, ho⟩ := hi1
                  have q7 := (HCW.out.2.1.only ho (by omega)).cell
                  have qs := (HCW.out.1.only ho (by omega)).cell
                  have ql := (HCW.out.2.2.1.only ho (by omega)).cell
                  have z7 := cell_lt q7
                  have zs := cell_lt qs
                  have zl := cell_lt ql
                  have q4 := k4.cell
                  have z4 := cell_lt q4
                  have f4 := k4.free
                  have hk : s'.length < i := by rw [HN_.out]; exact (List.getElem?_eq_some_iff.1 hat).1
                  obtain ⟨g, rfl, hg, b0, b1, b2, b3, b4⟩ := (HATQ.out.only ((Only.of_none HOA.out).trans ho) (fun j h1 h2 => by have := HGI.out; omega)) s'.length _ hat
                  simp only at b0 b1 b2 b3 b4 hxf
                  obtain ⟨k1, hkk⟩ : ∃ k1, k1 = s'.length := ⟨_, rfl⟩
                  rw [← hkk] at q4 k4 hk b0 b1 b2 b3 b4
                  have t1 : decide ((i : Int) ≤ (k1 : Int)) = false := by simpa using hk
                  have t2 : decide (i ≤ k1) = false := by simpa using hk
                  have i1 : (0 : Int) ≤ (k1 : Int) ∧ (k1 : Int) < (i : Int) := by omega
                  have w1 : IntKind.i64.wrap ((k1 : Int) + 1) = (k1 : Int) + 1 := by rw [IntKind.wrap_i64]; omega
                  have K4 := k4.set (.int .i64 ((k1 : Int) + 1))
                  have KO := (Only.refl (· = gI) A1).setCell (p := ⟨gI, 0, none⟩) (.inl rfl) (.int .i64 ((k1 : Int) + 1))
                  have HFK := Lib.hid (⟨K4, KO, ho⟩ : _ ∧ _ ∧ _)
                  have HKK1 := Lib.hid hkk
                  have HBT := fun W => Lib.hid (fun (h : lim ≠ 0) => show Calls Try.prog 37 #[.int .u8 2, .int .i64 op, .int .i64 lim] W (fun e w' => e = .returned (.bool false) ∧ w' = W) from by
                    have := k_better W (!false) op lim
                    rw [show decide (sgn (!false) * op < sgn (!false) * lim) = false from decide_eq_false (by have := hxf h; simp [sgn] at this ⊢; omega)] at this
                    exact this.mono fun e w' ⟨h1, h2⟩ => ⟨h1, h2.symm⟩)
                  try clear hr2
                  clear hi h5 o1 hr1 hrec hpre k4 ho K4 KO hkk hat hxf
                  by_cases h0 : lim = 0
                  · have t5 : (lim != 0) = false := by simpa using h0
                    clear h0
                    gi_wp2
                    refine wpIn_quiet (by kernel_rfl) (by kernel_rfl) (by kernel_rfl) ?_
                    repeat (go_big_quiet_step (fail))
                    refine wpQuiet_nil ?_
                    intro _ hw'
                    obtain ⟨nq, rfl⟩ := hw'
                    gi_wp2
                    obtain ⟨K4, KO, ho⟩ := HFK.out
                    have KO' := KO.drewN nq
                    refine ⟨_, ⟨KO', fun i hi => .inl hi⟩, ⟨rfl, ?_, ho.trans KO'⟩⟩
                    rw [List.length_append, ← HKK1.out]
                    exact K4.drewN nq
                  · have t5 : (lim != 0) = true := by simpa using h0
                    have HBT := fun W => Lib.hid ((HBT W).out h0)
                    clear h0
                    gi_wp2
                    refine wpIn_quiet (by kernel_rfl) (by kernel_rfl) (by kernel_rfl) ?_
                    repeat (go_big_quiet_step ((go_at_call 37; exact Calls.quiet_of_same (HBT _).out)))
                    refine wpQuiet_nil ?_
                    intro _ hw'
                    obtain ⟨nq, rfl⟩ := hw'
                    gi_wp2
                    obtain ⟨K4, KO, ho⟩ := HFK.out
                    have KO' := KO.drewN nq
                    refine ⟨_, ⟨KO', fun i hi => .inl hi⟩, ⟨rfl, ?_, ho.trans KO'⟩⟩
                    rw [List.length_append, ← HKK1.out]
                    exact K4.drewN nq
              case stop => exact fun _ _ _ _ _ _ _ h => h.elim
              case done =>
              intro D11 T' B11 hD hi hTD hdd
              obtain ⟨rfl, k4, ho⟩ := hi
              have hzB := ho.size
              have hzWs : Ws.heap.size ≤ gA := by rw [← HGA.out]; exact HZW.out
              have OSB := Lib.hid (show Only (fun _ => False) Ws B11 from ((O15.out.trans' OQ.out (fun j h1 h2 => by have := hgd j h2; omega)).trans HOA.out).trans' ho (fun j h1 h2 => by omega))
              have HD1 := Lib.hid (⟨hD, hdd, Nat.le_trans (O15.out.size) (Nat.le_trans OQ.out.size HOA.out.size)⟩ : _ ∧ _ ∧ _)
              have HSB1 := Lib.hid OSB.out
              have sC := (HCW.out.1.only ho (by omega)).cell
              have aC := (HCW.out.2.1.only ho (by omega)).cell
              have lC := (HCW.out.2.2.1.only ho (by omega)).cell
              have zsC := cell_lt sC
              have zaC := cell_lt aC
              have zlC := cell_lt lC
              obtain ⟨fl, hfl⟩ : ∃ fl, fl = xs.length := ⟨_, rfl⟩
              rw [← hfl] at k4
              have q4 := k4.cell
              have z4 := cell_lt q4
              have hcase : (fl < i ∧ ∃ ga p, va = some ⟨ga, 0, none⟩ ∧ B11.cell? ⟨ga, fl * 5 + 3, none⟩ = some (.int .i64 p) ∧ lim ≠ 0 ∧ sgn false * lim < sgn false * p) ∨ ¬ fl < i := by
                by_cases h : fl < i
                · left
                  obtain ⟨x, hx⟩ : ∃ x, L[fl]? = some x := ⟨_, List.getElem?_eq_getElem (by rw [← HN_.out]; exact h)⟩
                  have hxD : x ∈ D2 := by
                    have h2 := hx
                    rw [HF1.out, List.getElem?_append_right (by omega)] at h2
                    exact List.mem_of_getElem? h2
                  obtain ⟨ga, e, _, _, _, _, c3, _⟩ := (HATQ.out.only ((Only.of_none HOA.out).trans ho) (fun j h1 h2 => by have := HGI.out; omega)) fl x hx
                  exact ⟨h, ga, x.p, e, c3, HF3.out x hxD⟩
                · exact .inr h
              have HCA := Lib.hid hcase
              clear hcase k4 ho hD hdd hTD hfl HSEQ1 ci zIc hSI hAI hNI gs gb gl'
              go_upto_region 56 with fail
              go_cut [302] from 283 to 301 (fun s302 wc => s302 = .bool false ∧ Only (fun _ => False) B11 wc)
              case first =>
                as_aux_lemma =>
                  rcases HCA.out with ⟨h, ga, p, rfl, c3, hl0, hlt⟩ | h
                  · have t2 : decide (fl < i) = true := by simpa using h
                    have t2' : decide ((fl : Int) < (i : Int)) = true := by simpa using h
                    have t3 : (lim == 0) = false := by simpa using hl0
                    have ij : (0 : Int) ≤ (fl : Int) ∧ (fl : Int) < (i : Int) := by omega
                    have zc := cell_lt c3
                    have HBT := fun W => Lib.hid (show Calls Try.prog 37 #[.int .u8 2, .int .i64 p, .int .i64 lim] W (fun e w' => e = .returned (.bool true) ∧ w' = W) from by
                      have := k_better W (!false) p lim
                      rw [show decide (sgn (!false) * p < sgn (!false) * lim) = true from decide_eq_true (by simp [sgn] at hlt ⊢; omega)] at this
                      exact this.mono fun e w' ⟨h1, h2⟩ => ⟨h1, h2.symm⟩)
                    clear h hl0 hlt
                    go_quiet ((go_at_call 37; exact Calls.quiet_of_same (HBT _).out))
                    go_wp2_with fail
                    go_meet
                    exact ⟨rfl, by repeat' (first | (with_reducible exact Only.refl _ _) | (with_reducible assumption) | (refine Only.of_none ?_; with_reducible assumption) | (with_reducible refine Only.drewN ?_ _) | (with_reducible refine Only.drew ?_) | (with_reducible refine Only.alloc ?_ _) | (with_reducible refine Only.setCell ?_ ?_ _) | (with_reducible refine Only.then0 ?_ (by with_reducible assumption)) | (with_reducible refine Only.thenN ?_ (by with_reducible assumption) ?_) | (with_reducible refine Only.trans ?_ (by with_reducible assumption)) | (refine .inl ?_; first | rfl | (simp; done) | (simp [Ar.blk]; done)) | (refine .inr ?_; first | omega | (simp; done) | (simp; omega) | exact Only.size (by with_reducible assumption) | (refine Nat.le_trans (Only.size (by with_reducible assumption)) ?_; simp; done)))⟩
                  · have t2 : decide (fl < i) = false := by simpa using h
                    have t2' : decide ((fl : Int) < (i : Int)) = false := by simpa using h
                    clear h
                    go_quiet (fail)
                    go_wp2_with fail
                    go_meet
                    exact ⟨rfl, by repeat' (first | (with_reducible exact Only.refl _ _) | (with_reducible assumption) | (refine Only.of_none ?_; with_reducible assumption) | (with_reducible refine Only.drewN ?_ _) | (with_reducible refine Only.drew ?_) | (with_reducible refine Only.alloc ?_ _) | (with_reducible refine Only.setCell ?_ ?_ _) | (with_reducible refine Only.then0 ?_ (by with_reducible assumption)) | (with_reducible refine Only.thenN ?_ (by with_reducible assumption) ?_) | (with_reducible refine Only.trans ?_ (by with_reducible assumption)) | (refine .inl ?_; first | rfl | (simp; done) | (simp [Ar.blk]; done)) | (refine .inr ?_; first | omega | (simp; done) | (simp; omega) | exact Only.size (by with_reducible assumption) | (refine Nat.le_trans (Only.size (by with_reducible assumption)) ?_; simp; done)))⟩
              case rest =>
              obtain ⟨rfl, oC⟩ := hcut
              have OC := Lib.hid oC
              have sC := oC.cell sC id
              have aC := oC.cell aC id
              have zsC := cell_lt sC
              have zaC := cell_lt aC
              have wn : IntKind.i64.wrap ((i : Int)) = (i : Int) := by rw [IntKind.wrap_i64]; omega
              clear oC lC zlC q4 z4 HCA
              go_wp2_with fail
              have HLN1 := Lib.hid (show i = (l false).length from by rw [HN_.out, HL_.out])
              obtain ⟨n1, rfl⟩ : ∃ n1 : Nat, n1 = i := ⟨_, rfl⟩
              obtain ⟨Ws2, hWs⟩ : ∃ Ws2, wc.alloc (.cells #[.int .u8 2] 24) = Ws2 := ⟨_, rfl⟩
              have os : Only (fun _ => False) wc Ws2 := by rw [← hWs]; exact (Only.refl _ _).alloc _
              have cs : Cell Ws2 wc.heap.size 0 (.int .u8 2) := by rw [← hWs]; exact Cell.new rfl
              rw [hWs]
              obtain ⟨gS2, hgS⟩ : ∃ gS2, wc.heap.size = gS2 := ⟨_, rfl⟩
              rw [hgS] at cs
              rw [hgS]
              have hgN2 : N + 2 ≤ gS2 := by omega
              have I2 := Lib.hid (I1.out.keep ((OSB.out.trans OC.out).trans os))
              have CS2 := Lib.hid cs
              have OM1 := Lib.hid (OC.out.trans os)
              have hn1le : n1 ≤ 256 := hn256
              clear sC aC zsC zaC wn os cs hWs hgS hzB hzWs hzq hA5 hNA hn256 hm129 hzS hz35 hgd DV5 S5 A5 I5 HAT O5 O15 HGA HZW HZT HL_ HN_ HD_ HM_ HP_ HRO HO HATR OWC OQ HWQ HCQ HGI HOA HCW HF1 HF2 HF3 HKK3 HATW HATQ OSB OC
              rw [rounds_succ]
              have c5 := I2.out.c5.cell
              have s1 := CS2.out.cell
              have zs1 := cell_lt s1
              have z51 := cell_lt c5
              have HL := Lib.hid fun W (o : Only (fun _ => False) Ws2 W) => (show Calls Try.prog 25 #[.pointer (some ⟨b, 0, none⟩), .int .u8 2] W (ListPost W (l true)) from bk_list (I2.out.bk.only o fun _ _ => id) true)
              have HD := Lib.hid fun W (o : Only (fun _ => False) Ws2 W) => (show Calls Try.prog 35 #[.pointer (some ⟨b, 0, none⟩), .int .u8 2, .int .i64 129] W (LvPost W (depthL (l true))) from by
                have := bk_depth (I2.out.bk.only o fun _ _ => id) true 129 (by decide) (by decide)
                rw [List.take_of_length_le (by have h1 := HG.out.dep true; have h2 := HG.out.small.2; omega)] at this
                exact this)
              have HB := Lib.hid fun W (o : Only (fun _ => False) Ws2 W) => (show Calls Try.prog 36 #[.pointer (some ⟨b, 0, none⟩), .int .u8 2] W (fun e w' => e = .returned (.int .i64 (bestP (l true))) ∧ Only (fun _ => False) W w') from bk_best (I2.out.bk.only o fun _ _ => id) true)
              go_wp2_with fail
              refine (HL.out _ (by repeat' (first | (with_reducible exact Only.refl _ _) | (with_reducible assumption) | (refine Only.of_none ?_; with_reducible assumption) | (with_reducible refine Only.drewN ?_ _) | (with_reducible refine Only.drew ?_) | (with_reducible refine Only.alloc ?_ _) | (with_reducible refine Only.setCell ?_ ?_ _) | (with_reducible refine Only.then0 ?_ (by with_reducible assumption)) | (with_reducible refine Only.thenN ?_ (by with_reducible assumption) ?_) | (with_reducible refine Only.trans ?_ (by with_reducible assumption)) | (refine .inl ?_; first | rfl | (simp; done) | (simp [Ar.blk]; done)) | (refine .inr ?_; first | omega | (simp; done) | (simp; omega) | exact Only.size (by with_reducible assumption) | (refine Nat.le_trans (Only.size (by with_reducible assumption)) ?_; simp; done))))).mono ?_
              intro e w3 hp
              obtain ⟨v, rfl, hv, o3⟩ := hp
              obtain ⟨va, ca, rfl, hca, hat⟩ := OrdAt.of_own hv
              have HAT := Lib.hid hat
              have s3 := (CS2.out.only o3 id).cell
              have zs3 := cell_lt s3
              have A3 := Lib.hid (show Cell (w3.alloc (.cells #[.slice va (l true).length ca] 52)) w3.heap.size 0 (.slice va (l true).length ca) from Cell.new rfl)
              have O3 := Lib.hid o3
              clear hv hat s1 zs1 c5 z51
              go_wp2_with fail
              refine (HD.out _ (by repeat' (first | (with_reducible exact Only.refl _ _) | (with_reducible assumption) | (refine Only.of_none ?_; with_reducible assumption) | (with_reducible refine Only.drewN ?_ _) | (with_reducible refine Only.drew ?_) | (with_reducible refine Only.alloc ?_ _) | (with_reducible refine Only.setCell ?_ ?_ _) | (with_reducible refine Only.then0 ?_ (by with_reducible assumption)) | (with_reducible refine Only.thenN ?_ (by with_reducible assumption) ?_) | (with_reducible refine Only.trans ?_ (by with_reducible assumption)) | (refine .inl ?_; first | rfl | (simp; done) | (simp [Ar.blk]; done)) | (refine .inr ?_; first | omega | (simp; done) | (simp; omega) | exact Only.size (by with_reducible assumption) | (refine Nat.le_trans (Only.size (by with_reducible assumption)) ?_; simp; done))))).mono ?_
              intro e w4 hp
              obtain ⟨v, rfl, hdv, o4⟩ := hp
              obtain ⟨da, dc, rfl, hdc⟩ := own_slice hdv
              have hdv := ownsRow_base hdv (Nat.le_of_lt_succ (by rw [World.size_alloc]; omega) : w3.heap.size + 1 ≤ _)
              have HDV := Lib.hid hdv
              have s4 := ((CS2.out.only o3 id).only (((Only.refl (fun _ => False) w3).alloc _).trans o4) id).cell
              have zs4 := cell_lt s4
              have A4 := Lib.hid (A3.out.only o4 id)
              have O4 := Lib.hid (show Only (fun _ => False) w3 w4 from ((Only.refl (fun _ => False) w3).alloc _).trans o4)
              clear s3 zs3 hdv
              go_wp2_with fail
              refine (HB.out _ (by repeat' (first | (with_reducible exact Only.refl _ _) | (with_reducible assumption) | (refine Only.of_none ?_; with_reducible assumption) | (with_reducible refine Only.drewN ?_ _) | (with_reducible refine Only.drew ?_) | (with_reducible refine Only.alloc ?_ _) | (with_reducible refine Only.setCell ?_ ?_ _) | (with_reducible refine Only.then0 ?_ (by with_reducible assumption)) | (with_reducible refine Only.thenN ?_ (by with_reducible assumption) ?_) | (with_reducible refine Only.trans ?_ (by with_reducible assumption)) | (refine .inl ?_; first | rfl | (simp; done) | (simp [Ar.blk]; done)) | (refine .inr ?_; first | omega | (simp; done) | (simp; omega) | exact Only.size (by with_reducible assumption) | (refine Nat.le_trans (Only.size (by with_reducible assumption)) ?_; simp; done))))).mono ?_
              rintro e w5 ⟨rfl, o5⟩
              have O5 := Lib.hid (show Only (fun _ => False) w3 w5 from O4.out.trans o5)
              have O15 := Lib.hid (show Only (fun _ => False) Ws2 w5 from O3.out.trans O5.out)
              have I5 := Lib.hid (I2.out.keep O15.out)
              have S5 := Lib.hid (CS2.out.only O15.out id)
              have A5 := Lib.hid (A4.out.only o5 id)
              have DV5 := Lib.hid (ownsRow_apart HDV.out o5 (fun _ _ => id))
              have hzT : ∀ i, T i → i < w3.heap.size := fun i hi => Nat.lt_of_lt_of_le (I2.out.bk.lt i hi) O3.out.size
              have hzS : gS2 < w3.heap.size := Nat.lt_of_lt_of_le CS2.out.lt O3.out.size
              have hz35 := O5.out.size
              obtain ⟨gA, hgA⟩ : ∃ gA, w3.heap.size = gA := ⟨_, rfl⟩
              have HGA := Lib.hid hgA
              have HZW := Lib.hid (show Ws2.heap.size ≤ w3.heap.size from O3.out.size)
              rw [hgA] at A5 DV5 hzT hzS hz35
              rw [hgA]
              have hA5 := A5.out.lt
              have HZT := Lib.hid hzT
              have hNA : N + 2 ≤ gA := by omega
              obtain ⟨L, hL⟩ : ∃ L, L = l true := ⟨_, rfl⟩
              obtain ⟨n, hn⟩ : ∃ n, n = L.length := ⟨_, rfl⟩
              obtain ⟨D, hD⟩ : ∃ D, D = depthL L := ⟨_, rfl⟩
              obtain ⟨md, hmd⟩ : ∃ md, md = D.length := ⟨_, rfl⟩
              obtain ⟨bp, hbp⟩ : ∃ bp, bp = bestP L := ⟨_, rfl⟩
              rw [← hL, ← hn] at A5
              rw [← hL] at HAT
              rw [← hL, ← hD, ← hmd] at DV5
              rw [← hL, ← hbp]
              rw [← hn, ← hD, ← hmd]
              have HL_ := Lib.hid hL; have HN_ := Lib.hid hn; have HD_ := Lib.hid hD; have HM_ := Lib.hid hmd; have HP_ := Lib.hid hbp
              have hn256 : n ≤ 256 := by rw [hn, hL]; exact HG.out.le true
              have hm129 : md ≤ 128 := by rw [hmd, hD, hL]; have h1 := HG.out.dep true; have h2 := HG.out.small.2; omega
              clear O3 O4 o3 o4 o5 A3 A4 HDV hL hn hD hmd hbp s4 zs4 HL HD HB hca hdc hzT hgA
              go_wp2_with fail
              go_loopw [17, 18] (fun s17 s18 wr => ∃ i : Nat, i ≤ n ∧ s18 = .int .i64 i ∧ s17 = .int .i64 (((depthL (L.take i)).length : Int) - 1) ∧ wr.ownsRow (gA + 1) 94 3 (.slice da md dc) md (lvlC (subD D (depthL (L.take i)))) ∧ Only (fun j => (Value.slice da md dc).ownBlock = some j) w5 wr) (fun _ s18 _ => n - (intOf s18).toNat)
              case atStart => exact ⟨0, Nat.zero_le _, rfl, by simp [depthL], by rw [List.take_zero, show depthL [] = [] from rfl, subD_nil]; exact DV5.out, Only.refl _ _⟩
              case round =>
                obtain ⟨i, hi, rfl, e17, hrow, ho⟩ := hrel
                obtain ⟨kk, hkk⟩ : ∃ kk : Int, ((depthL (L.take i)).length : Int) - 1 = kk := ⟨_, rfl⟩
                rw [hkk] at e17
                subst e17
                have HKK := Lib.hid hkk
                clear hkk
                have hgd : ∀ j, (Value.slice da md dc).ownBlock = some j → gA + 1 ≤ j := fun j hj => (DV5.out.lt j hj).1
                have sC := (S5.out.only ho (fun hj => by have := hgd _ hj; omega)).cell
                have aC := (A5.out.only ho (fun hj => by have := hgd _ hj; omega)).cell
                have zsC := cell_lt sC
                have zaC := cell_lt aC
                by_cases hlt : i < n
                · have t1 : decide (i < n) = true := by simpa using hlt
                  have i1 : (0 : Int) ≤ (i : Int) ∧ (i : Int) < (n : Int) := by omega
                  have w1' : IntKind.i64.wrap ((i : Int) + 1) = (i : Int) + 1 := by rw [IntKind.wrap_i64]; omega
                  as_aux_lemma =>
                    obtain ⟨o, ho_⟩ : ∃ o, L[i]? = some o := ⟨_, List.getElem?_eq_getElem (by rw [← HN_.out]; exact hlt)⟩
                    have hmem : o ∈ l true := by rw [← HL_.out]; exact List.mem_of_getElem? ho_
                    have hok := HG.out.ok true o hmem
                    have hsd : o.s = 2 := HG.out.side true o hmem
                    obtain ⟨k0, hk1, hk2, hcase, x, hx, hxp, hstep⟩ := used_step ho_
                    rw [← HD_.out] at hk2 hx hstep
                    have hk0 : k0 < md := by
                      have := (List.getElem?_eq_some_iff.1 hx).1
                      rw [subD_len] at this
                      rw [HM_.out]; exact this
                    obtain ⟨g, cap, e, hcap, hgA1, hgl, hcells⟩ := ownC hrow (by omega)
                    obtain ⟨rfl, rfl⟩ : da = some ⟨g, 0, none⟩ ∧ dc = cap := by injection e with e1 e2 e3; exact ⟨e1, e3⟩
                    obtain ⟨x0_, x1_, x2_⟩ := lvlC_at hx
                    have d0 := hcells _ _ x0_; have d1 := hcells _ _ x1_; have d2 := hcells _ _ x2_
                    have ATr := HAT.out.only ((Only.of_none O5.out).trans ho) (fun j hj hb => by have := hgd j hb; have := HGA.out; omega)
                    obtain ⟨ga, rfl, hga, b0, b1, b2, b3, b4⟩ := ATr i o ho_
                    have HY := Lib.hid fun j y (hy : L[j]? = some y) => (show wr.cell? ⟨ga, j * 5, none⟩ = some (.int .i64 y.i) ∧ wr.cell? ⟨ga, j * 5 + 3, none⟩ = some (.int .i64 y.p) from by
                      obtain ⟨ga', e', _, c0, _, _, c3, _⟩ := ATr j y hy
                      injection e' with e'; injection e' with e'
                      subst e'
                      exact ⟨c0, c3⟩)
                    have HASC := Lib.hid (fun y (hy : L[i - 1]? = some y) (h0 : 0 < i) => (show (y.p = o.p → y.i < o.i) ∧ sgn true * y.p ≤ sgn true * o.p from by
                      have h1 := I5.out.rise.asc true; have h2 := HG.out.srt true
                      rw [← HL_.out] at h1 h2
                      rw [List.pairwise_iff_getElem] at h1 h2
                      obtain ⟨l1, e1⟩ := List.getElem?_eq_some_iff.1 hy
                      obtain ⟨l2, e2⟩ := List.getElem?_eq_some_iff.1 ho_
                      have a1 := h1 (i - 1) i l1 l2 (by omega)
                      have a2 := h2 (i - 1) i l1 l2 (by omega)
                      rw [e1, e2] at a1 a2
                      exact ⟨a1, a2⟩))
                    obtain ⟨oi, oc, os, op, oq⟩ := o
                    simp only at b0 b1 b2 b3 b4 hsd hok hk2 hxp hcase hstep HASC
                    subst hsd
                    have hoq : 1 ≤ oq ∧ oq ≤ 1000000000 := hok.2.2.2.2.2.2
                    have t3 : decide (oq < 1) = false := by simp; omega
                    have HK1 := Lib.hid (⟨hk1, hstep, hx⟩ : _ ∧ _ ∧ _)
                    have HBND := Lib.hid (show (-256000000000 ≤ x.q ∧ x.q ≤ 256000000000 ∧ -256 ≤ x.n ∧ x.n ≤ 256) from by
                      have hq : ∀ o ∈ L, 1 ≤ o.q ∧ o.q ≤ 1000000000 := by rw [HL_.out]; exact HG.out.qs true
                      refine subD_bd (fun d hd => ?_) (fun d hd => ?_) x (List.mem_of_getElem? hx)
                      · rw [HD_.out] at hd
                        have := dep_bd hq d hd
                        have := HN_.out; omega
                      · have := dep_bd (l := L.take i) (fun o ho => hq o (List.mem_of_mem_take ho)) d hd
                        have h2 : (L.take i).length ≤ 256 := by rw [List.length_take]; have := HN_.out; omega
                        omega)
                    have HCS := Lib.hid hcase
                    have HD3 := Lib.hid (⟨d0, d1, d2⟩ : _ ∧ _ ∧ _)
                    have HRO := Lib.hid hrow
                    have HO := Lib.hid ho
                    have HOK := Lib.hid hok
                    have HHO := Lib.hid ho_
                    have F0 := Five.new wr (.int .i64 oi) (.int .i64 oc) (.int .u8 2) (.int .i64 op) (.int .i64 oq) 54
                    clear ATr hk1 hstep hcase hrow ho hok ho_ hcells x0_ x1_ x2_ d0 d1 d2 e hmem
                    go_upto_region 32 with fail
                    obtain ⟨W1, hW1⟩ : ∃ W1, wr.alloc (.cells #[.int .i64 oi, .int .i64 oc, .int .u8 2, .int .i64 op, .int .i64 oq] 54) = W1 := ⟨_, rfl⟩
                    have O1 : Only (fun _ => False) wr W1 := by rw [← hW1]; exact (Only.refl _ _).alloc _
                    rw [hW1] at F0 ⊢
                    obtain ⟨go, hgo⟩ : ∃ go, wr.heap.size = go := ⟨_, rfl⟩
                    have hggo : g < wr.heap.size := hgl
                    rw [hgo] at F0 hggo
                    rw [hgo]
                    have ag := (A5.out.only (HO.out.trans (Only.of_none O1)) (fun hj => by have := hgd _ hj; omega)).cell
                    have sg := (S5.out.only (HO.out.trans (Only.of_none O1)) (fun hj => by have := hgd _ hj; omega)).cell
                    have zag := cell_lt ag
                    have zsg := cell_lt sg
                    have y0 := F0.c0.cell; have y1 := F0.c1.cell; have y2 := F0.c2.cell; have y3 := F0.c3.cell; have y4 := F0.c4.cell
                    have zy := cell_lt y0
                    have d0' := (HD3.out.1.only O1 id).cell
                    rw [hxp] at d0'
                    have HF0 := Lib.hid F0
                    have HO1 := Lib.hid O1
                    have q1 : decide ((md : Int) ≤ (k0 : Int)) = false := by simp; omega
                    have q2 : decide (md ≤ k0) = false := by simp; omega
                    have q3 : (0 : Int) ≤ (k0 : Int) ∧ (k0 : Int) < (md : Int) := by omega
                    clear aC sC zsC zaC zag zsg F0 O1 hW1 hgo b0 b1 b2 b3 b4 t3 hoq hxp
                    obtain ⟨B, hcb⟩ : ∃ B : Bool, (B = false ∧ ((∃ y, L[i - 1]? = some y ∧ 0 < i ∧ y.p = op) ∧ (depthL (L.take i)).length = k0 + 1)) ∨ (B = true ∧ ((∀ y, 0 < i → L[i - 1]? = some y → y.p ≠ op) ∧ (depthL (L.take i)).length = k0)) := by
                      rcases HCS.out with h | h
                      · exact ⟨false, .inl ⟨rfl, h⟩⟩
                      · exact ⟨true, .inr ⟨rfl, h⟩⟩
                    have HCB := Lib.hid hcb
                    clear hcb HCS
                    go_cut [127] from 115 to 126 (fun s127 wc => s127 = .bool B ∧ Only (fun _ => False) W1 wc)
                    case first =>
                      as_aux_lemma =>
                        rcases HCB.out with ⟨rfl, ⟨y, hy, h0, hyp⟩, hlen⟩ | ⟨rfl, hne, hlen⟩
                        · obtain ⟨j, hj⟩ : ∃ j, j = i - 1 := ⟨_, rfl⟩
                          obtain ⟨c0, c3⟩ := HY.out (i - 1) y hy
                          have c3' := HO1.out.cell c3 id
                          rw [hyp] at c3'
                          rw [← hj] at c3'
                          have zc := cell_lt c3'
                          have t4 : ((i : Int) == 0) = false := by simp; omega
                          have t4' : (i == 0) = false := by simp; omega
                          have wm : IntKind.i64.wrap ((i : Int) - 1) = (j : Int) := by rw [IntKind.wrap_i64]; omega
                          have ij : (0 : Int) ≤ (j : Int) ∧ (j : Int) < (n : Int) := by omega
                          clear hy h0 hyp hlen c0 c3 hj
                          go_quiet (fail)
                          go_wp2_with fail
                          go_meet
                          exact ⟨rfl, by repeat' (first | (with_reducible exact Only.refl _ _) | (with_reducible assumption) | (refine Only.of_none ?_; with_reducible assumption) | (with_reducible refine Only.drewN ?_ _) | (with_reducible refine Only.drew ?_) | (with_reducible refine Only.alloc ?_ _) | (with_reducible refine Only.setCell ?_ ?_ _) | (with_reducible refine Only.then0 ?_ (by with_reducible assumption)) | (with_reducible refine Only.thenN ?_ (by with_reducible assumption) ?_) | (with_reducible refine Only.trans ?_ (by with_reducible assumption)) | (refine .inl ?_; first | rfl | (simp; done) | (simp [Ar.blk]; done)) | (refine .inr ?_; first | omega | (simp; done) | (simp; omega) | exact Only.size (by with_reducible assumption) | (refine Nat.le_trans (Only.size (by with_reducible assumption)) ?_; simp; done)))⟩
                        · by_cases h0 : i = 0
                          · have t4 : ((i : Int) == 0) = true := by simp; omega
                            have t4' : (i == 0) = true := by simp; omega
                            clear hne hlen h0
                            go_quiet (fail)
                            go_wp2_with fail
                            go_meet
                            exact ⟨rfl, by repeat' (first | (with_reducible exact Only.refl _ _) | (with_reducible assumption) | (refine Only.of_none ?_; with_reducible assumption) | (with_reducible refine Only.drewN ?_ _) | (with_reducible refine Only.drew ?_) | (with_reducible refine Only.alloc ?_ _) | (with_reducible refine Only.setCell ?_ ?_ _) | (with_reducible refine Only.then0 ?_ (by with_reducible assumption)) | (with_reducible refine Only.thenN ?_ (by with_reducible assumption) ?_) | (with_reducible refine Only.trans ?_ (by with_reducible assumption)) | (refine .inl ?_; first | rfl | (simp; done) | (simp [Ar.blk]; done)) | (refine .inr ?_; first | omega | (simp; done) | (simp; omega) | exact Only.size (by with_reducible assumption) | (refine Nat.le_trans (Only.size (by with_reducible assumption)) ?_; simp; done)))⟩
                          · obtain ⟨y, hy⟩ : ∃ y, L[i - 1]? = some y := ⟨_, List.getElem?_eq_getElem (by rw [← HN_.out]; omega)⟩
                            obtain ⟨j, hj⟩ : ∃ j, j = i - 1 := ⟨_, rfl⟩
                            obtain ⟨c0, c3⟩ := HY.out (i - 1) y hy
                            have c3' := HO1.out.cell c3 id
                            rw [← hj] at c3'
                            have zc := cell_lt c3'
                            have hyp := hne y (by omega) hy
                            have t4 : ((i : Int) == 0) = false := by simp; omega
                            have t4' : (i == 0) = false := by simp; omega
                            have wm : IntKind.i64.wrap ((i : Int) - 1) = (j : Int) := by rw [IntKind.wrap_i64]; omega
                            have ij : (0 : Int) ≤ (j : Int) ∧ (j : Int) < (n : Int) := by omega
                            have t6 : (y.p != op) = true := by simpa using hyp
                            obtain ⟨yi, yc, ys, yp, yq⟩ := y
                            simp only at c3' t6
                            clear hy h0 hyp hlen c0 c3 hj hne
                            go_quiet (fail)
                            go_wp2_with fail
                            go_meet
                            exact ⟨rfl, by repeat' (first | (with_reducible exact Only.refl _ _) | (with_reducible assumption) | (refine Only.of_none ?_; with_reducible assumption) | (with_reducible refine Only.drewN ?_ _) | (with_reducible refine Only.drew ?_) | (with_reducible refine Only.alloc ?_ _) | (with_reducible refine Only.setCell ?_ ?_ _) | (with_reducible refine Only.then0 ?_ (by with_reducible assumption)) | (with_reducible refine Only.thenN ?_ (by with_reducible assumption) ?_) | (with_reducible refine Only.trans ?_ (by with_reducible assumption)) | (refine .inl ?_; first | rfl | (simp; done) | (simp [Ar.blk]; done)) | (refine .inr ?_; first | omega | (simp; done) | (simp; omega) | exact Only.size (by with_reducible assumption) | (refine Nat.le_trans (Only.size (by with_reducible assumption)) ?_; simp; done)))⟩
                    case rest =>
                    obtain ⟨rfl, oB⟩ := hcut
                    have OB := Lib.hid (HO1.out.trans oB)
                    have F0 := HF0.out.only oB id
                    have ag := oB.cell ag id
                    have sg := oB.cell sg id
                    have zag := cell_lt ag
                    have zsg := cell_lt sg
                    have y0 := F0.c0.cell; have y1 := F0.c1.cell; have y2 := F0.c2.cell; have y3 := F0.c3.cell; have y4 := F0.c4.cell
                    have zy := cell_lt y0
                    have d0' := oB.cell d0' id
                    have HF1 := Lib.hid F0
                    clear F0 oB
                    go_upto_if 127 with fail
                    go_cut [17] from 127 to 169 (fun s17 wc' => s17 = .int .i64 (k0 : Nat) ∧ Only (fun _ => False) wc wc')
                    case first =>
                      as_aux_lemma =>
                        rcases HCB.out with ⟨rfl, ⟨y, hy, h0, hyp⟩, hlen⟩ | ⟨rfl, hne, hlen⟩
                        · obtain ⟨j, hj⟩ : ∃ j, j = i - 1 := ⟨_, rfl⟩
                          obtain ⟨c0, c3⟩ := HY.out (i - 1) y hy
                          have c0' := OB.out.cell c0 id
                          rw [← hj] at c0'
                          have zc := cell_lt c0'
                          have hlt2 := (HASC.out y hy h0).1 hyp
                          have wm : IntKind.i64.wrap ((i : Int) - 1) = (j : Int) := by rw [IntKind.wrap_i64]; omega
                          have ij : (0 : Int) ≤ (j : Int) ∧ (j : Int) < (n : Int) := by omega
                          have t5 : decide (oi ≤ y.i) = false := by simp; omega
                          have hkk := HKK.out
                          obtain rfl : kk = (k0 : Int) := by omega
                          obtain ⟨yi, yc, ys, yp, yq⟩ := y
                          simp only at c0' t5
                          clear hkk hy h0 hyp hlen c0 c3 hlt2 hj
                          go_wp2_with fail
                          go_quiet (fail)
                          go_wp2_with fail
                          go_meet
                          exact ⟨rfl, by repeat' (first | (with_reducible exact Only.refl _ _) | (with_reducible assumption) | (refine Only.of_none ?_; with_reducible assumption) | (with_reducible refine Only.drewN ?_ _) | (with_reducible refine Only.drew ?_) | (with_reducible refine Only.alloc ?_ _) | (with_reducible refine Only.setCell ?_ ?_ _) | (with_reducible refine Only.then0 ?_ (by with_reducible assumption)) | (with_reducible refine Only.thenN ?_ (by with_reducible assumption) ?_) | (with_reducible refine Only.trans ?_ (by with_reducible assumption)) | (refine .inl ?_; first | rfl | (simp; done) | (simp [Ar.blk]; done)) | (refine .inr ?_; first | omega | (simp; done) | (simp; omega) | exact Only.size (by with_reducible assumption) | (refine Nat.le_trans (Only.size (by with_reducible assumption)) ?_; simp; done)))⟩
                        · have wk : IntKind.i64.wrap (kk + 1) = (k0 : Int) := by have hkk := HKK.out; rw [IntKind.wrap_i64]; omega
                          by_cases h0 : i = 0
                          · have t5 : decide ((0 : Int) < (i : Int)) = false := by simp; omega
                            have t5' : decide (0 < i) = false := by simp; omega
                            clear hne hlen h0
                            go_wp2_with fail
                            go_quiet (fail)
                            go_wp2_with fail
                            go_meet
                            exact ⟨rfl, by repeat' (first | (with_reducible exact Only.refl _ _) | (with_reducible assumption) | (refine Only.of_none ?_; with_reducible assumption) | (with_reducible refine Only.drewN ?_ _) | (with_reducible refine Only.drew ?_) | (with_reducible refine Only.alloc ?_ _) | (with_reducible refine Only.setCell ?_ ?_ _) | (with_reducible refine Only.then0 ?_ (by with_reducible assumption)) | (with_reducible refine Only.thenN ?_ (by with_reducible assumption) ?_) | (with_reducible refine Only.trans ?_ (by with_reducible assumption)) | (refine .inl ?_; first | rfl | (simp; done) | (simp [Ar.blk]; done)) | (refine .inr ?_; first | omega | (simp; done) | (simp; omega) | exact Only.size (by with_reducible assumption) | (refine Nat.le_trans (Only.size (by with_reducible assumption)) ?_; simp; done)))⟩
                          · obtain ⟨y, hy⟩ : ∃ y, L[i - 1]? = some y := ⟨_, List.getElem?_eq_getElem (by rw [← HN_.out]; omega)⟩
                            obtain ⟨j, hj⟩ : ∃ j, j = i - 1 := ⟨_, rfl⟩
                            obtain ⟨c0, c3⟩ := HY.out (i - 1) y hy
                            have c3' := OB.out.cell c3 id
                            rw [← hj] at c3'
                            have zc := cell_lt c3'
                            have hyp := hne y (by omega) hy
                            have hlt2 := (HASC.out y hy (by omega)).2
                            have t5 : decide ((0 : Int) < (i : Int)) = true := by simp; omega
                            have t5' : decide (0 < i) = true := by simp; omega
                            have wm : IntKind.i64.wrap ((i : Int) - 1) = (j : Int) := by rw [IntKind.wrap_i64]; omega
                            have ij : (0 : Int) ≤ (j : Int) ∧ (j : Int) < (n : Int) := by omega
                            have HBT := fun W => Lib.hid (show Calls Try.prog 37 #[.int .u8 2, .int .i64 y.p, .int .i64 op] W (fun e w' => e = .returned (.bool true) ∧ W = w') from by
                              have := k_better W true y.p op
                              rw [show decide (sgn true * y.p < sgn true * op) = true from decide_eq_true (by rcases Int.lt_or_eq_of_le hlt2 with h | h; exact h; simp [sgn] at h; omega)] at this
                              exact this)
                            obtain ⟨yi, yc, ys, yp, yq⟩ := y
                            simp only at c3' HBT
                            clear hy h0 hyp hlen c0 c3 hlt2 hj hne
                            go_wp2_with fail
                            go_quiet ((go_at_call 37; exact Calls.quiet_of_same ((HBT _).out.mono fun e w' ⟨h1, h2⟩ => ⟨h1, h2.symm⟩)))
                            go_wp2_with fail
                            go_meet
                            exact ⟨rfl, by repeat' (first | (with_reducible exact Only.refl _ _) | (with_reducible assumption) | (refine Only.of_none ?_; with_reducible assumption) | (with_reducible refine Only.drewN ?_ _) | (with_reducible refine Only.drew ?_) | (with_reducible refine Only.alloc ?_ _) | (with_reducible refine Only.setCell ?_ ?_ _) | (with_reducible refine Only.then0 ?_ (by with_reducible assumption)) | (with_reducible refine Only.thenN ?_ (by with_reducible assumption) ?_) | (with_reducible refine Only.trans ?_ (by with_reducible assumption)) | (refine .inl ?_; first | rfl | (simp; done) | (simp [Ar.blk]; done)) | (refine .inr ?_; first | omega | (simp; done) | (simp; omega) | exact Only.size (by with_reducible assumption) | (refine Nat.le_trans (Only.size (by with_reducible assumption)) ?_; simp; done)))⟩
                    case rest =>
                    obtain ⟨rfl, oC⟩ := hcut
                    have oWC : Only (fun _ => False) wr wc := OB.out.trans oC
                    have OWC := Lib.hid oWC
                    have e1 := (HD3.out.2.1.only oWC id).cell; have e1f := (HD3.out.2.1.only oWC id).free
                    have e2 := (HD3.out.2.2.only oWC id).cell; have e2f := (HD3.out.2.2.only oWC id).free
                    have F0 := HF1.out.only oC id
                    have y0 := F0.c0.cell; have y1 := F0.c1.cell; have y2 := F0.c2.cell; have y3 := F0.c3.cell; have y4 := F0.c4.cell
                    have zy := cell_lt y0
                    have zg := cell_lt e1
                    have HF2 := Lib.hid F0
                    have HGET := Lib.hid fun W (o : Only (fun j => (Value.slice (some ⟨g, 0, none⟩) md dc).ownBlock = some j) w5 W) => (show Calls Try.prog 32 #[.pointer (some ⟨b, 0, none⟩), .int .i64 oi] W (fun e w' => e = .returned (.tuple #[.agg #[.int .i64 oi, .int .i64 oc, .int .u8 2, .int .i64 op, .int .i64 oq], .bool true]) ∧ Only (fun _ => False) W w') from by
                      have hm : (⟨oi, oc, 2, op, oq⟩ : OrdR) ∈ l true := by rw [← HL_.out]; exact List.mem_of_getElem? HHO.out
                      have := bk_get (I5.out.bk.only o (fun i hi hb => by have := HZT.out i hi; have := hgd i hb; omega)) oi (wf_of2 (by have := HOK.out.1; simp only at this; omega) HOK.out.2.1)
                      rw [getL_mem HG.out.ids hm] at this
                      exact this)
                    obtain ⟨xp, xq, xn⟩ := x
                    simp only at e1 e2
                    have hbnd := HBND.out
                    simp only at hbnd
                    have hoq : 1 ≤ oq ∧ oq ≤ 1000000000 := HOK.out.2.2.2.2.2.2
                    have wq : IntKind.i64.wrap (xq - oq) = xq - oq := by rw [IntKind.wrap_i64]; omega
                    have wn : IntKind.i64.wrap (xn - 1) = xn - 1 := by rw [IntKind.wrap_i64]; omega
                    have HO5 := Lib.hid (show Only (fun j => (Value.slice (some ⟨g, 0, none⟩) md dc).ownBlock = some j) w5 wc from HO.out.trans (Only.of_none oWC))
                    clear F0 oWC oC d0' ag sg zag zsg hbnd
                    go_upto_region 38 with fail
                    go_still_tail 12, (by kernel_rfl)
                    change wpList _ _ _ _ _ wc.drew
                    go_wp2_with fail
                    have SETS := (((Only.refl (· = g) wc).setCell (p := ⟨g, k0 * 3 + 1, none⟩) (.inl rfl) (.int .i64 (xq - oq))).setCell (p := ⟨g, k0 * 3 + 2, none⟩) (.inl rfl) (.int .i64 (xn - 1))).drew
                    have HSETS := Lib.hid SETS
                    refine (HGET.out _ (HO5.out.trans (SETS.mono fun _ _ h => by rw [h]; rfl))).mono ?_
                    rintro e w6 ⟨rfl, o6⟩
                    have F6 := (HF2.out.only SETS (by omega)).only o6 id
                    have y0 := F6.c0.cell; have y1 := F6.c1.cell; have y2 := F6.c2.cell; have y3 := F6.c3.cell; have y4 := F6.c4.cell
                    have zy := cell_lt y0
                    have HO6 := Lib.hid o6
                    clear e1 e1f e2 e2f zg wq wn F6 SETS
                    go_wp2_with fail
                    go_roundw
                    case rel =>
                      obtain ⟨hk1, hstep, hx⟩ := HK1.out
                      refine ⟨i + 1, by omega, by go_num, by rw [hk1]; congr 1; omega, ?_, ?_⟩
                      · have hlk : k0 < md := q3.2 |> Int.ofNat_lt.1
                        have R0 := ownsRow_apart HRO.out OWC.out (fun _ _ => id)
                        have R1 := own_set (own_set R0 rfl (off := k0 * 3 + 1) (by omega) (.int .i64 (xq - oq))) rfl (off := k0 * 3 + 2) (by omega) (.int .i64 (xn - 1))
                        rw [hstep, lvlC_setAt _ _ hx]
                        exact ownsRow_apart R1 ((((Only.refl (fun _ => False) _).drew).trans HO6.out).alloc _) (fun _ _ => id)
                      · exact (HO5.out.trans (HSETS.out.mono fun _ _ h => by rw [h]; rfl)).trans (Only.of_none (HO6.out.alloc _))
                    case measure => simp [intOf]; omega
                · have t1 : decide (i < n) = false := by simpa using hlt
                  have hin : i = n := by omega
                  subst hin
                  have htk : L.take i = L := List.take_of_length_le (by rw [← HN_.out]; exact Nat.le_refl _)
                  have hkm : kk = (md : Int) - 1 := by rw [← HKK.out, htk, ← HD_.out, ← HM_.out]
                  rw [htk, ← HD_.out] at hrow
                  have wk : IntKind.i64.wrap (kk + 1) = (md : Int) := by rw [IntKind.wrap_i64]; omega
                  have HRO := Lib.hid hrow
                  have HO := Lib.hid ho
                  have ATr := HAT.out.only ((Only.of_none O5.out).trans ho) (fun j hj hb => by have := hgd j hb; have := HGA.out; omega)
                  have HATR := Lib.hid ATr
                  have hbest : (i = 0 ∧ bp = 0) ∨ (0 < i ∧ ∃ ga, va = some ⟨ga, 0, none⟩ ∧ wr.cell? ⟨ga, 3, none⟩ = some (.int .i64 bp)) := by
                    have hp := HP_.out; have hl := HN_.out
                    cases hL : L with
                    | nil => rw [hL] at hp hl; exact .inl ⟨hl, hp⟩
                    | cons o t =>
                      rw [hL] at hp hl
                      right
                      obtain ⟨ga, e, _, _, _, _, c3, _⟩ := ATr 0 o (by rw [hL]; rfl)
                      refine ⟨by rw [hl]; simp, ga, e, ?_⟩
                      rw [hp]
                      rw [Nat.zero_mul, Nat.zero_add] at c3
                      exact c3
                  have HBE := Lib.hid hbest
                  clear hbest ATr hkm htk hrow ho hi hlt HKK
                  go_upto_region 43 with fail
                  go_cut [230] from 204 to 229 (fun s230 wc => s230 = .bool false ∧ Only (fun _ => False) wr wc)
                  case first =>
                    as_aux_lemma =>
                      rcases HBE.out with ⟨h0, h1⟩ | ⟨h0, ga, rfl, c3⟩
                      · subst h1
                        have t2 : decide ((0 : Int) < (i : Int)) = false := by simp; omega
                        have t2' : decide (0 < i) = false := by simp; omega
                        have t3 : ((i : Int) == 0) = true := by simp; omega
                        have t3' : (i == 0) = true := by simp; omega
                        clear h0
                        go_wp2_with fail
                        go_meet
                        exact ⟨rfl, by repeat' (first | (with_reducible exact Only.refl _ _) | (with_reducible assumption) | (refine Only.of_none ?_; with_reducible assumption) | (with_reducible refine Only.drewN ?_ _) | (with_reducible refine Only.drew ?_) | (with_reducible refine Only.alloc ?_ _) | (with_reducible refine Only.setCell ?_ ?_ _) | (with_reducible refine Only.then0 ?_ (by with_reducible assumption)) | (with_reducible refine Only.thenN ?_ (by with_reducible assumption) ?_) | (with_reducible refine Only.trans ?_ (by with_reducible assumption)) | (refine .inl ?_; first | rfl | (simp; done) | (simp [Ar.blk]; done)) | (refine .inr ?_; first | omega | (simp; done) | (simp; omega) | exact Only.size (by with_reducible assumption) | (refine Nat.le_trans (Only.size (by with_reducible assumption)) ?_; simp; done)))⟩
                      · have t2 : decide ((0 : Int) < (i : Int)) = true := by simp; omega
                        have t2' : decide (0 < i) = true := by simp; omega
                        have t3 : ((i : Int) == 0) = false := by simp; omega
                        have t3' : (i == 0) = false := by simp; omega
                        have ij : (0 : Int) ≤ (0 : Int) ∧ (0 : Int) < (i : Int) := by omega
                        have zc := cell_lt c3
                        clear h0
                        go_wp2_with fail
                        go_meet
                        exact ⟨rfl, by repeat' (first | (with_reducible exact Only.refl _ _) | (with_reducible assumption) | (refine Only.of_none ?_; with_reducible assumption) | (with_reducible refine Only.drewN ?_ _) | (with_reducible refine Only.drew ?_) | (with_reducible refine Only.alloc ?_ _) | (with_reducible refine Only.setCell ?_ ?_ _) | (with_reducible refine Only.then0 ?_ (by with_reducible assumption)) | (with_reducible refine Only.thenN ?_ (by with_reducible assumption) ?_) | (with_reducible refine Only.trans ?_ (by with_reducible assumption)) | (refine .inl ?_; first | rfl | (simp; done) | (simp [Ar.blk]; done)) | (refine .inr ?_; first | omega | (simp; done) | (simp; omega) | exact Only.size (by with_reducible assumption) | (refine Nat.le_trans (Only.size (by with_reducible assumption)) ?_; simp; done)))⟩
                  case rest =>
                  obtain ⟨rfl, oC⟩ := hcut
                  have OWC := Lib.hid oC
                  have sC := oC.cell sC id
                  have aC := oC.cell aC id
                  have zsC := cell_lt sC
                  have zaC := cell_lt aC
                  clear oC t1 wk HBE
                  go_wp2_with fail
                  go_loopw [22] (fun s wq => ∃ j : Nat, j ≤ md ∧ s = .int .i64 j ∧ Only (fun _ => False) wc wq) (fun s _ => md - (intOf s).toNat)
                  case atStart => exact ⟨0, Nat.zero_le _, rfl, Only.refl _ _⟩
                  case round =>
                    obtain ⟨wq, rfl⟩ : ∃ wq : World, wq = wr := ⟨_, rfl⟩
                    obtain ⟨j, hj, rfl, ho4⟩ := hrel
                    have HO4 := Lib.hid ho4
                    have sC := ho4.cell sC id
                    have aC := ho4.cell aC id
                    have zsC := cell_lt sC
                    have zaC := cell_lt aC
                    by_cases hjl : j < md
                    · have t1 : decide (j < md) = true := by simpa using hjl
                      have w1' : IntKind.i64.wrap ((j : Int) + 1) = (j : Int) + 1 := by rw [IntKind.wrap_i64]; omega
                      have ij : (0 : Int) ≤ (j : Int) ∧ (j : Int) < (md : Int) := by omega
                      have hr4 := ownsRow_apart HRO.out (OWC.out.trans ho4) (fun _ _ => id)
                      obtain ⟨g, cap, e, _, _, hgl, hcells⟩ := ownC hr4 (by omega)
                      obtain ⟨rfl, rfl⟩ : da = some ⟨g, 0, none⟩ ∧ dc = cap := by injection e with e1 e2 e3; exact ⟨e1, e3⟩
                      obtain ⟨x, hx⟩ : ∃ x, (subD D D)[j]? = some x := ⟨_, List.getElem?_eq_getElem (by rw [subD_len, ← HM_.out]; exact hjl)⟩
                      obtain ⟨z1, z2⟩ := subD_self D x (List.mem_of_getElem? hx)
                      obtain ⟨_, e1, e2⟩ := lvlC_at hx
                      have d1 := (hcells _ _ e1).cell
                      have d2 := (hcells _ _ e2).cell
                      rw [z1] at d1
                      rw [z2] at d2
                      clear e1 e2 hcells e hr4 ho4 hx z1 z2
                      go_wp2_with fail
                      go_roundw
                      case rel => exact ⟨j + 1, by omega, by go_num, HO4.out⟩
                      case measure => simp [intOf]; omega
                    · have t1 : decide (j < md) = false := by simpa using hjl
                      have OQ := Lib.hid (show Only (fun j => (Value.slice da md dc).ownBlock = some j) w5 wq from (HO.out.trans (Only.of_none OWC.out)).trans (Only.of_none ho4))
                      have hzq : w5.heap.size ≤ wq.heap.size := OQ.out.size
                      have HWQ := Lib.hid (OWC.out.trans ho4)
                      have c5 := I5.out.c5.only OQ.out (fun h => by have := hgd _ h; omega)
                      have c6 := I5.out.c6.only OQ.out (fun h => by have := hgd _ h; omega)
                      have c5c := c5.cell
                      have z5c := cell_lt c5c
                      have HCQ := Lib.hid (show Cell wq gS2 0 (.int .u8 2) ∧ Cell wq gA 0 (.slice va i ca) ∧ Cell wq N 0 (.int .i64 lim) ∧ Cell wq (N + 1) 0 (.bool false) from ⟨S5.out.only OQ.out (fun h => by have := hgd _ h; omega), A5.out.only OQ.out (fun h => by have := hgd _ h; omega), c5, c6⟩)
                      clear hj hjl ho4 HO4 c5 c6
                      go_wp2_with fail
                      clear t1
                      refine (k_facing _ b 1 lim).mono ?_
                      intro e Wc hp
                      obtain ⟨Bs, Bb, Bl, rfl, oc, cs, cb, cl, gs, gb, gl'⟩ := hp
                      have ci := (Cell.new (w := wq) (cs := #[.int .i64 0]) (t := 3) (v := .int .i64 0) (o := 0) rfl).only oc id
                      have oa : Only (fun _ => False) wq Wc := ((Only.refl _ wq).alloc _).trans oc
                      simp only [World.size_alloc] at gs gb gl'
                      obtain ⟨gI, hgI⟩ : ∃ gI, wq.heap.size = gI := ⟨_, rfl⟩
                      rw [hgI] at ci gs gb gl' hzq
                      rw [hgI]
                      have HGI := Lib.hid hgI
                      have HOA := Lib.hid oa
                      have HCW := Lib.hid (show Cell Wc gS2 0 (.int .u8 2) ∧ Cell Wc gA 0 (.slice va i ca) ∧ Cell Wc N 0 (.int .i64 lim) ∧ Cell Wc (N + 1) 0 (.bool false) from ⟨HCQ.out.1.only oa id, HCQ.out.2.1.only oa id, HCQ.out.2.2.1.only oa id, HCQ.out.2.2.2.only oa id⟩)
                      have HSEQ1 := Lib.hid (bk_fac_iter (I5.out.bk.only (OQ.out.trans (Only.of_none oa)) (fun i hi hb => by have := HZT.out i hi; have := hgd i hb; omega)) 1 lim cs cb cl)
                      rw [show facO l 1 lim = facL (sgn true) lim (l true) from rfl, ← HL_.out] at HSEQ1
                      have hfp := fac_parts (sg := sgn true) (lim := lim) (L := L) (by rw [HL_.out]; exact HG.out.srt true)
                      obtain ⟨xs, hxs⟩ : ∃ xs, xs = facL (sgn true) lim L := ⟨_, rfl⟩
                      rw [← hxs] at HSEQ1 hfp
                      obtain ⟨D2, hf1, hf2, hf3⟩ := hfp
                      have HF1 := Lib.hid hf1
                      have HF2 := Lib.hid hf2
                      have HF3 := Lib.hid hf3
                      have HKK3 := Lib.hid (⟨cs.lt, cb.lt, cl.lt⟩ : _ ∧ _ ∧ _)
                      have HATW := Lib.hid (show OrdAt Wc va L from HATR.out.only (HWQ.out.trans oa) (fun _ _ => id))
                      have HATQ := Lib.hid (show OrdAt wq va L from HATR.out.only HWQ.out (fun _ _ => id))
                      have zIc := ci.lt
                      have hSI : gS2 < gI := by have := HCQ.out.1.lt; rw [HGI.out] at this; exact this
                      have hAI : gA < gI := by have := HCQ.out.2.1.lt; rw [HGI.out] at this; exact this
                      have hNI : N + 1 < gI := by have := HCQ.out.2.2.2.lt; rw [HGI.out] at this; exact this
                      clear hxs hf1 hf2 hf3 cs cb cl oc oa hgI sC aC zsC zaC c5c z5c
                      go_wp2_with fail
                      refine (wpIn_wide (n := 0)).1 ?_
                      refine rangeT (gf := 112) (lb := #[.pointer (some ⟨Bs, 0, none⟩), .pointer (some ⟨Bb, 0, none⟩), .pointer (some ⟨Bl, 0, none⟩)]) rfl (enters_of Try.func112 (by kernel_rfl) rfl)
                        HSEQ1.out (fun _ => rfl) (Nat.le_refl _) (KeepB.refl _ _) ?hK
                        (FcI Wc gI) (fun _ _ _ _ => False) (· = gI) ?hT ?hI (fun _ _ _ _ _ _ h _ _ => h.elim) ⟨rfl, ci, Only.refl _ _⟩ ?round ?done ?stop
                      case hK =>
                        rintro j (hi | rfl | rfl | rfl)
                        · have := HZT.out j hi; have := zIc; omega
                        · exact HKK3.out.1
                        · exact HKK3.out.2.1
                        · exact HKK3.out.2.2
                      case hT =>
                        rintro s' T' A ⟨rfl, h4, ho⟩ j rfl
                        refine ⟨?_, h4.lt⟩
                        rintro (hk | hk | hk | hk)
                        · have := HZT.out _ hk; omega
                        all_goals omega
                      case hI =>
                        rintro s' T' A B S ⟨rfl, h4, ho⟩ hAB hS
                        exact ⟨rfl, h4.only hAB (fun h => (hS _ h).1 rfl), ho.trans' hAB (fun i h1 h2 => by have := (hS i h2).2; omega)⟩
                      case round =>
                        as_aux_lemma =>
                          intro l1 s' T' x A hl1 hszA hrec hTl hi hpre
                          have hat : L[s'.length]? = some x := pre_at (hpre.trans (by rw [HF1.out]; exact List.prefix_append _ _))
                          have hxf : lim ≠ 0 → sgn true * x.p ≤ sgn true * lim := fun h => HF2.out h x (hpre.subset (by simp))
                          obtain ⟨oi, oc, os, op, oq⟩ := x
                          unfold encO ordV
                          gi_wp2
                          refine ⟨(Only.refl _ A).alloc _, fun A1 hi1 o1 hr1 => ?_⟩
                          try intro hr2
                          have hlA : l1 < A.heap.size := by obtain ⟨r, hr⟩ := hrec; exact (Array.getElem?_eq_some_iff.1 hr).1
                          have h5 := (Five.new A (.int .i64 oi) (.int .i64 oc) (.int .u8 os) (.int .i64 op) (.int .i64 oq) 54).only o1 (show ¬ A.heap.size = l1 by omega)
                          have d1 := h5.c0.cell; have d2 := h5.c1.cell; have d3 := h5.c2.cell; have d4 := h5.c3.cell; have d5 := h5.c4.cell
                          have zd := cell_lt d1
                          obtain ⟨rfl, k4, ho⟩ := hi1
                          have q7 := (HCW.out.2.1.only ho (by omega)).cell
                          have qs := (HCW.out.1.only ho (by omega)).cell
                          have ql := (HCW.out.2.2.1.only ho (by omega)).cell
                          have z7 := cell_lt q7
                          have zs := cell_lt qs
                          have zl := cell_lt ql
                          have q4 := k4.cell
                          have z4 := cell_lt q4
                          have f4 := k4.free
                          have hk : s'.length < i := by rw [HN_.out]; exact (List.getElem?_eq_some_iff.1 hat).1
                          obtain ⟨g, rfl, hg, b0, b1, b2, b3, b4⟩ := (HATQ.out.only ((Only.of_none HOA.out).trans ho) (fun j h1 h2 => by have := HGI.out; omega)) s'.length _ hat
                          simp only at b0 b1 b2 b3 b4 hxf
                          obtain ⟨k1, hkk⟩ : ∃ k1, k1 = s'.length := ⟨_, rfl⟩
                          rw [← hkk] at q4 k4 hk b0 b1 b2 b3 b4
                          have t1 : decide ((i : Int) ≤ (k1 : Int)) = false := by simpa using hk
                          have t2 : decide (i ≤ k1) = false := by simpa using hk
                          have i1 : (0 : Int) ≤ (k1 : Int) ∧ (k1 : Int) < (i : Int) := by omega
                          have w1 : IntKind.i64.wrap ((k1 : Int) + 1) = (k1 : Int) + 1 := by rw [IntKind.wrap_i64]; omega
                          have K4 := k4.set (.int .i64 ((k1 : Int) + 1))
                          have KO := (Only.refl (· = gI) A1).setCell (p := ⟨gI, 0, none⟩) (.inl rfl) (.int .i64 ((k1 : Int) + 1))
                          have HFK := Lib.hid (⟨K4, KO, ho⟩ : _ ∧ _ ∧ _)
                          have HKK1 := Lib.hid hkk
                          have HBT := fun W => Lib.hid (fun (h : lim ≠ 0) => show Calls Try.prog 37 #[.int .u8 1, .int .i64 op, .int .i64 lim] W (fun e w' => e = .returned (.bool false) ∧ w' = W) from by
                            have := k_better W (!true) op lim
                            rw [show decide (sgn (!true) * op < sgn (!true) * lim) = false from decide_eq_false (by have := hxf h; simp [sgn] at this ⊢; omega)] at this
                            exact this.mono fun e w' ⟨h1, h2⟩ => ⟨h1, h2.symm⟩)
                          try clear hr2
                          clear hi h5 o1 hr1 hrec hpre k4 ho K4 KO hkk hat hxf
                          by_cases h0 : lim = 0
                          · have t5 : (lim != 0) = false := by simpa using h0
                            clear h0
                            gi_wp2
                            refine wpIn_quiet (by kernel_rfl) (by kernel_rfl) (by kernel_rfl) ?_
                            repeat (go_big_quiet_step (fail))
                            refine wpQuiet_nil ?_
                            intro _ hw'
                            obtain ⟨nq, rfl⟩ := hw'
                            gi_wp2
                            obtain ⟨K4, KO, ho⟩ := HFK.out
                            have KO' := KO.drewN nq
                            refine ⟨_, ⟨KO', fun i hi => .inl hi⟩, ⟨rfl, ?_, ho.trans KO'⟩⟩
                            rw [List.length_append, ← HKK1.out]
                            exact K4.drewN nq
                          · have t5 : (lim != 0) = true := by simpa using h0
                            have HBT := fun W => Lib.hid ((HBT W).out h0)
                            clear h0
                            gi_wp2
                            refine wpIn_quiet (by kernel_rfl) (by kernel_rfl) (by kernel_rfl) ?_
                            repeat (go_big_quiet_step ((go_at_call 37; exact Calls.quiet_of_same (HBT _).out)))
                            refine wpQuiet_nil ?_
                            intro _ hw'
                            obtain ⟨nq, rfl⟩ := hw'
                            gi_wp2
                            obtain ⟨K4, KO, ho⟩ := HFK.out
                            have KO' := KO.drewN nq
                            refine ⟨_, ⟨KO', fun i hi => .inl hi⟩, ⟨rfl, ?_, ho.trans KO'⟩⟩
                            rw [List.length_append, ← HKK1.out]
                            exact K4.drewN nq
                      case stop => exact fun _ _ _ _ _ _ _ h => h.elim
                      case done =>
                      intro D12 T' B12 hD hi hTD hdd
                      obtain ⟨rfl, k4, ho⟩ := hi
                      have hzB := ho.size
                      have hzWs : Ws2.heap.size ≤ gA := by rw [← HGA.out]; exact HZW.out
                      have OSB := Lib.hid (show Only (fun _ => False) Ws2 B12 from ((O15.out.trans' OQ.out (fun j h1 h2 => by have := hgd j h2; omega)).trans HOA.out).trans' ho (fun j h1 h2 => by omega))
                      have HD2 := Lib.hid (⟨hD, hdd, Nat.le_trans (O15.out.size) (Nat.le_trans OQ.out.size HOA.out.size)⟩ : _ ∧ _ ∧ _)
                      have HSB2 := Lib.hid OSB.out
                      have sC := (HCW.out.1.only ho (by omega)).cell
                      have aC := (HCW.out.2.1.only ho (by omega)).cell
                      have lC := (HCW.out.2.2.1.only ho (by omega)).cell
                      have zsC := cell_lt sC
                      have zaC := cell_lt aC
                      have zlC := cell_lt lC
                      obtain ⟨fl, hfl⟩ : ∃ fl, fl = xs.length := ⟨_, rfl⟩
                      rw [← hfl] at k4
                      have q4 := k4.cell
                      have z4 := cell_lt q4
                      have hcase : (fl < i ∧ ∃ ga p, va = some ⟨ga, 0, none⟩ ∧ B12.cell? ⟨ga, fl * 5 + 3, none⟩ = some (.int .i64 p) ∧ lim ≠ 0 ∧ sgn true * lim < sgn true * p) ∨ ¬ fl < i := by
                        by_cases h : fl < i
                        · left
                          obtain ⟨x, hx⟩ : ∃ x, L[fl]? = some x := ⟨_, List.getElem?_eq_getElem (by rw [← HN_.out]; exact h)⟩
                          have hxD : x ∈ D2 := by
                            have h2 := hx
                            rw [HF1.out, List.getElem?_append_right (by omega)] at h2
                            exact List.mem_of_getElem? h2
                          obtain ⟨ga, e, _, _, _, _, c3, _⟩ := (HATQ.out.only ((Only.of_none HOA.out).trans ho) (fun j h1 h2 => by have := HGI.out; omega)) fl x hx
                          exact ⟨h, ga, x.p, e, c3, HF3.out x hxD⟩
                        · exact .inr h
                      have HCA := Lib.hid hcase
                      clear hcase k4 ho hD hdd hTD hfl HSEQ1 ci zIc hSI hAI hNI gs gb gl'
                      go_upto_region 56 with fail
                      go_cut [302] from 283 to 301 (fun s302 wc => s302 = .bool false ∧ Only (fun _ => False) B12 wc)
                      case first =>
                        as_aux_lemma =>
                          rcases HCA.out with ⟨h, ga, p, rfl, c3, hl0, hlt⟩ | h
                          · have t2 : decide (fl < i) = true := by simpa using h
                            have t2' : decide ((fl : Int) < (i : Int)) = true := by simpa using h
                            have t3 : (lim == 0) = false := by simpa using hl0
                            have ij : (0 : Int) ≤ (fl : Int) ∧ (fl : Int) < (i : Int) := by omega
                            have zc := cell_lt c3
                            have HBT := fun W => Lib.hid (show Calls Try.prog 37 #[.int .u8 1, .int .i64 p, .int .i64 lim] W (fun e w' => e = .returned (.bool true) ∧ w' = W) from by
                              have := k_better W (!true) p lim
                              rw [show decide (sgn (!true) * p < sgn (!true) * lim) = true from decide_eq_true (by simp [sgn] at hlt ⊢; omega)] at this
                              exact this.mono fun e w' ⟨h1, h2⟩ => ⟨h1, h2.symm⟩)
                            clear h hl0 hlt
                            go_quiet ((go_at_call 37; exact Calls.quiet_of_same (HBT _).out))
                            go_wp2_with fail
                            go_meet
                            exact ⟨rfl, by repeat' (first | (with_reducible exact Only.refl _ _) | (with_reducible assumption) | (refine Only.of_none ?_; with_reducible assumption) | (with_reducible refine Only.drewN ?_ _) | (with_reducible refine Only.drew ?_) | (with_reducible refine Only.alloc ?_ _) | (with_reducible refine Only.setCell ?_ ?_ _) | (with_reducible refine Only.then0 ?_ (by with_reducible assumption)) | (with_reducible refine Only.thenN ?_ (by with_reducible assumption) ?_) | (with_reducible refine Only.trans ?_ (by with_reducible assumption)) | (refine .inl ?_; first | rfl | (simp; done) | (simp [Ar.blk]; done)) | (refine .inr ?_; first | omega | (simp; done) | (simp; omega) | exact Only.size (by with_reducible assumption) | (refine Nat.le_trans (Only.size (by with_reducible assumption)) ?_; simp; done)))⟩
                          · have t2 : decide (fl < i) = false := by simpa using h
                            have t2' : decide ((fl : Int) < (i : Int)) = false := by simpa using h
                            clear h
                            go_quiet (fail)
                            go_wp2_with fail
                            go_meet
                            exact ⟨rfl, by repeat' (first | (with_reducible exact Only.refl _ _) | (with_reducible assumption) | (refine Only.of_none ?_; with_reducible assumption) | (with_reducible refine Only.drewN ?_ _) | (with_reducible refine Only.drew ?_) | (with_reducible refine Only.alloc ?_ _) | (with_reducible refine Only.setCell ?_ ?_ _) | (with_reducible refine Only.then0 ?_ (by with_reducible assumption)) | (with_reducible refine Only.thenN ?_ (by with_reducible assumption) ?_) | (with_reducible refine Only.trans ?_ (by with_reducible assumption)) | (refine .inl ?_; first | rfl | (simp; done) | (simp [Ar.blk]; done)) | (refine .inr ?_; first | omega | (simp; done) | (simp; omega) | exact Only.size (by with_reducible assumption) | (refine Nat.le_trans (Only.size (by with_reducible assumption)) ?_; simp; done)))⟩
                      case rest =>
                      obtain ⟨rfl, oC⟩ := hcut
                      have OC := Lib.hid oC
                      have sC := oC.cell sC id
                      have aC := oC.cell aC id
                      have zsC := cell_lt sC
                      have zaC := cell_lt aC
                      have wn : IntKind.i64.wrap ((n1 : Int) + (i : Int)) = (n1 : Int) + (i : Int) := by rw [IntKind.wrap_i64]; omega
                      clear oC lC zlC q4 z4 HCA
                      go_wp2_with fail
                      have HLN2 := Lib.hid (show i = (l true).length from by rw [HN_.out, HL_.out])
                      obtain ⟨n2, rfl⟩ : ∃ n2 : Nat, n2 = i := ⟨_, rfl⟩
                      obtain ⟨Ws3, hWs⟩ : ∃ Ws3, wc.alloc (.cells #[.int .u8 3] 24) = Ws3 := ⟨_, rfl⟩
                      have os : Only (fun _ => False) wc Ws3 := by rw [← hWs]; exact (Only.refl _ _).alloc _
                      have cs : Cell Ws3 wc.heap.size 0 (.int .u8 3) := by rw [← hWs]; exact Cell.new rfl
                      rw [hWs]
                      obtain ⟨gS3, hgS⟩ : ∃ gS3, wc.heap.size = gS3 := ⟨_, rfl⟩
                      rw [hgS] at cs
                      rw [hgS]
                      have hgN3 : N + 2 ≤ gS3 := by omega
                      have I3 := Lib.hid (I2.out.keep ((OSB.out.trans OC.out).trans os))
                      have CS3 := Lib.hid cs
                      have OM2 := Lib.hid (OC.out.trans os)
                      have hn2le : n2 ≤ 256 := hn256
                      clear sC aC zsC zaC wn os cs hWs hgS hzB hzWs hzq hA5 hNA hn256 hm129 hzS hz35 hgd DV5 S5 A5 I5 HAT O5 O15 HGA HZW HZT HL_ HN_ HD_ HM_ HP_ HRO HO HATR OWC OQ HWQ HCQ HGI HOA HCW HF1 HF2 HF3 HKK3 HATW HATQ OSB OC
                      rw [rounds_succ]
                      have s3 := CS3.out.cell
                      have zs3 := cell_lt s3
                      go_upto_region 61 with fail
                      have HOP := Lib.hid fun c W (o : Only (fun _ => False) Ws3 W) => (show Calls Try.prog 39 #[.pointer (some ⟨b, 0, none⟩), .int .i64 c] W (fun e w' => e = .returned (.tuple #[.int .i64 (cntC c (l false) + cntC c (l true)), .int .i64 (lotC c (l false) + lotC c (l true))]) ∧ Only (fun _ => False) W w') from bk_open (I3.out.bk.only o fun _ _ => id) c)
                      have HLEN := Lib.hid fun W (o : Only (fun _ => False) Ws3 W) => b_len2 (I3.out.bk.only o fun _ _ => id)
                      have HROOM := Lib.hid fun W (o : Only (fun _ => False) Ws3 W) => bk_room (I3.out.bk.only o fun _ _ => id)
                      obtain ⟨nn, hnn⟩ : ∃ nn : Nat, (l false).length + (l true).length = nn := ⟨_, rfl⟩
                      rw [hnn] at HLEN HROOM
                      have hn256 : nn ≤ 256 := by rw [← hnn]; exact HG.out.len
                      have e12 : (n1 : Int) + (n2 : Int) = (nn : Int) := by have := HLN1.out; have := HLN2.out; omega
                      rw [e12]
                      obtain ⟨rr, hrr⟩ : ∃ rr : Nat, 256 - nn = rr := ⟨_, rfl⟩
                      rw [hrr] at HROOM
                      have wr_ : IntKind.i64.wrap ((nn : Int) + (rr : Int)) = 256 := by rw [IntKind.wrap_i64]; omega
                      have HNN_ := Lib.hid hnn
                      have c6 := I3.out.c6
                      have q6 := c6.cell
                      have f6 := c6.free
                      have z6 := cell_lt q6
                      have HSET := Lib.hid c6
                      clear e12 hrr hnn s3 zs3 hn1le hn2le hgN2 hgN3 hgN c6
                      go_wp2_with fail
                      go_loopw [25, 26] (fun s25 s26 wr => ∃ c : Nat, 1 ≤ c ∧ c ≤ 9 ∧ s26 = .int .i64 c ∧ s25 = .int .i64 (below c (l false) + below c (l true)) ∧ Only (fun _ => False) Ws3 wr) (fun _ s26 _ => 9 - (intOf s26).toNat)
                      case atStart => exact ⟨1, by omega, by omega, rfl, by rw [show ((1 : Nat) : Int) = 1 from rfl, below_one (HG.out.ok false), below_one (HG.out.ok true)]; rfl, Only.refl _ _⟩
                      case round =>
                        obtain ⟨wz, rfl⟩ : ∃ wz : World, wz = wr := ⟨_, rfl⟩
                        obtain ⟨c, h1, h9, rfl, e25, ho⟩ := hrel
                        obtain ⟨sm, hsm⟩ : ∃ sm : Int, below c (l false) + below c (l true) = sm := ⟨_, rfl⟩
                        rw [hsm] at e25
                        subst e25
                        have q6 := ho.cell q6 id
                        have f6 := (HSET.out.only ho id).free
                        have z6 := cell_lt q6
                        by_cases hc : c ≤ 8
                        · have t1 : decide (c ≤ 8) = true := by simpa using hc
                          have t1' : decide ((c : Int) ≤ 8) = true := by simp; omega
                          have hb1 := below_bd c (l false); have hb2 := below_bd c (l true); have hb3 := cnt_bd c (l false); have hb4 := cnt_bd c (l true)
                          have hl := HG.out.len
                          have HC := Lib.hid (HOP.out (c : Int))
                          obtain ⟨ct, hct⟩ : ∃ ct : Int, cntC c (l false) + cntC c (l true) = ct := ⟨_, rfl⟩
                          rw [hct] at HC
                          have w1' : IntKind.i64.wrap ((c : Int) + 1) = (c : Int) + 1 := by rw [IntKind.wrap_i64]; omega
                          have w2' : IntKind.i64.wrap (sm + ct) = sm + ct := by rw [IntKind.wrap_i64]; omega
                          have HSM := Lib.hid (show below ((c + 1 : Nat) : Int) (l false) + below ((c + 1 : Nat) : Int) (l true) = sm + ct from by
                            rw [show ((c + 1 : Nat) : Int) = (c : Int) + 1 by omega, below_step, below_step]; omega)
                          have HO := Lib.hid ho
                          clear hb1 hb2 hb3 hb4 hl hct hsm
                          go_wp2_with fail
                          refine (HC.out _ HO.out).mono ?_
                          rintro e w6 ⟨rfl, o6⟩
                          have HO6 := Lib.hid (HO.out.trans o6)
                          clear HC ho o6
                          go_wp2_with fail
                          go_roundw
                          case rel => exact ⟨c + 1, by omega, by omega, by go_num, by rw [HSM.out], HO6.out⟩
                          case measure => simp [intOf]; omega
                        · have t1 : decide (c ≤ 8) = false := by simpa using hc
                          have t1' : decide ((c : Int) ≤ 8) = false := by simp; omega
                          obtain rfl : c = 9 := by omega
                          have hs2 : sm = (nn : Int) := by
                            rw [← hsm, show ((9 : Nat) : Int) = 9 from rfl, below_all (HG.out.ok false), below_all (HG.out.ok true)]
                            have := HNN_.out; omega
                          subst hs2
                          have HO := Lib.hid ho
                          clear hsm ho hc h1 h9
                          go_wp2_with fail
                          refine (HLEN.out _ HO.out).mono ?_
                          rintro e w6 ⟨rfl, rfl⟩
                          go_wp2_with fail
                          refine (HROOM.out _ (by have := HO.out; repeat' (first | (with_reducible exact Only.refl _ _) | (with_reducible assumption) | (refine Only.of_none ?_; with_reducible assumption) | (with_reducible refine Only.drewN ?_ _) | (with_reducible refine Only.drew ?_) | (with_reducible refine Only.alloc ?_ _) | (with_reducible refine Only.setCell ?_ ?_ _) | (with_reducible refine Only.then0 ?_ (by with_reducible assumption)) | (with_reducible refine Only.thenN ?_ (by with_reducible assumption) ?_) | (with_reducible refine Only.trans ?_ (by with_reducible assumption)) | (refine .inl ?_; first | rfl | (simp; done) | (simp [Ar.blk]; done)) | (refine .inr ?_; first | omega | (simp; done) | (simp; omega) | exact Only.size (by with_reducible assumption) | (refine Nat.le_trans (Only.size (by with_reducible assumption)) ?_; simp; done))))).mono ?_
                          rintro e w7 ⟨rfl, o7⟩
                          have OF := HO.out.trans o7
                          have c6 := HSET.out.only OF id
                          have q6 := c6.cell
                          have f6 := c6.free
                          have z6 := cell_lt q6
                          have HS6 := Lib.hid (c6.set (.bool true))
                          have OFH := Lib.hid OF
                          clear c6 OF o7
                          go_wp2_with fail
                          obtain ⟨hD1, hdd1, hs1⟩ := HD1.out
                          obtain ⟨hD2, hdd2, hs2⟩ := HD2.out
                          have hl1 := (Array.getElem?_eq_some_iff.1 hdd1).1
                          have hl2 := (Array.getElem?_eq_some_iff.1 hdd2).1
                          have P2 : Only (fun _ => False) B12 w7 := OM2.out.trans OFH.out
                          have P1 : Only (fun _ => False) B11 w7 := (OM1.out.trans HSB2.out).trans P2
                          have P0 : Only (fun _ => False) w w7 := (I1.out.only.trans HSB1.out).trans P1
                          have zz1 := OM1.out.size
                          have zz0 := I1.out.c6.lt
                          have zzN := HNN.out
                          have zz2 := P2.size
                          have zz3 := P1.size
                          have oS : Only (· = N + 1) w7 (w7.setCell ⟨N + 1, 0, none⟩ (.bool true)) := (Only.refl (· = N + 1) w7).setCell (p := ⟨N + 1, 0, none⟩) (.inl rfl) _
                          refine leaves_marks [D12, D11] _ (by simp; omega) (fun E hE => ?_) (fun w' ho' => ?_)
                          · simp only [List.mem_cons, List.mem_nil_iff, or_false] at hE
                            rcases hE with rfl | rfl
                            · exact (oS.block _ (by omega) (by omega)).trans ((P2.block _ hl2 id).trans hdd2)
                            · exact (oS.block _ (by omega) (by omega)).trans ((P1.block _ hl1 id).trans hdd1)
                          · have g6 := (HS6.out.only ho' (fun hD => by simp only [List.mem_cons, List.mem_nil_iff, or_false] at hD; omega)).cell
                            refine ⟨.bool true, by simp [results, Try.results8, Try.f8, go_sem, g6], rfl, ?_⟩
                            refine (P0.trans' oS (fun i h1 h2 => by omega)).trans' ho' (fun i h1 h2 => ?_)
                            simp only [List.mem_cons, List.mem_nil_iff, or_false] at h2
                            rcases h2 with rfl | rfl <;> omega
theorem bookOrder_walk (w : World) (x0 : Int) (wf0 : (Lit.int .i64 x0).wf = true) (a : Option Addr) (len cap : Nat) (rows : List (List Value)) (hs : SliceIn w a len cap [.i .i64, .i .i64, .i .i64, .i .u8, .i .i64, .i .i64, .i .u8, .i .i64, .i .i64] rows) (hlen : len * 72 ≤ 140737488351232) (x2 : Int) (wf2 : (Lit.int .i64 x2).wf = true) :
    Calls Try.prog 8 #[.int .i64 x0, .slice a len cap, .int .i64 x2] w fun e w' => e = .returned (.bool true) ∧ Below w.heap.size w w' :=
  (bookOrder_yes w x0 x2 wf0 wf2 a len cap rows hs hlen).mono fun _ _ ⟨he, ho⟩ => ⟨he, ho.below⟩
end Go.Proofs.Ytkglplngnjgnhaa
