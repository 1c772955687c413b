/- LevelsHalves: the walk. No condition. -/
import Derived.Test.YtkglplngnjgnhaaMir
namespace Go.Proofs.Ytkglplngnjgnhaa
set_option linter.unusedVariables false
set_option linter.unusedSimpArgs false
open Go.RowKit Go.Shelf
attribute [local go_sem] Oper.semAt_some

/-- A round of a loop over prices: what was told is a first part; a counter lies in a box. -/
structure HI (Wc : World) (Bk : Nat) (U : List Int) (pre : List Lvl) (W : World) : Prop where
  pf : pre.map Prod.fst <+: U
  only : Only (· = Bk) Wc W
  ck : Cell W Bk 0 (.int .i64 (pre.length : Nat))
theorem HI.own {Wc : World} {B : Nat} {Bk : Nat} {U : List Int} (h0 : Wc.heap.size ≤ B) (h1 : Bk < B) : OwnFrom B (HI Wc Bk U) := fun pre X Y row h hg hr => by
  have hb : ∀ r, row = some r → B ≤ r := fun r e => (hr r e).1
  exact ⟨h.pf, h.only.grown hg (fun r e => Nat.le_trans h0 (hb r e)), h.ck.grown hg (fun r e => Nat.lt_of_lt_of_le h1 (hb r e))⟩

/-- Both sides, turned about, and nothing that lay ahead has turned. -/
structure Two2 (w : World) (B Bb b gu b2 gu2 : Nat) (lim : Int) (wr : World) (hv hv2 : Value) (L : List Lvl) : Prop where
  s1 : SideAt wr b gu 60 (-1) hv L
  s2 : SideAt wr b2 gu2 60 1 hv2 (mir L)
  cl : Cell wr B 0 (.int .i64 lim)
  cr : Cell wr (B + 1) 0 (.bool false)
  cb : Cell wr Bb 0 (.pointer (some ⟨b, 0, none⟩))
  only : Only (fun _ => False) w wr
  low1 : ∀ i, SdB b gu hv i → B + 1 < i ∧ i ≠ Bb
  low2 : ∀ i, SdB b2 gu2 hv2 i → B + 1 < i ∧ i ≠ Bb
  ap : ∀ i, SdB b gu hv i → ¬ SdB b2 gu2 hv2 i
  bb : B + 1 < Bb
  bw : B = w.heap.size

theorem Two2.keep {w : World} {B Bb b gu b2 gu2 : Nat} {lim : Int} {wr wr' : World} {hv hv2 : Value} {L : List Lvl} (h : Two2 w B Bb b gu b2 gu2 lim wr hv hv2 L) (o : Only (fun _ => False) wr wr') : Two2 w B Bb b gu b2 gu2 lim wr' hv hv2 L :=
  ⟨h.s1.only o (fun _ _ => id), h.s2.only o (fun _ _ => id), h.cl.only o id, h.cr.only o id, h.cb.only o id, h.only.trans o, h.low1, h.low2, h.ap, h.bb, h.bw⟩

/-- Both are longer by one. -/
theorem Two2.both {w : World} {B Bb b gu b2 gu2 : Nat} {lim : Int} {wr w3 w4 : World} {hv hv2 hv3 hv4 : Value} {L L' : List Lvl} (h : Two2 w B Bb b gu b2 gu2 lim wr hv hv2 L)
    (s3 : SideAt w3 b gu 60 (-1) hv3 L') (o3 : Only (SdB b gu hv) wr w3) (f3 : hv3.ownBlock = hv.ownBlock ∨ ∃ g, hv3.ownBlock = some g ∧ wr.heap.size ≤ g)
    (s4 : SideAt w4 b2 gu2 60 1 hv4 (mir L')) (o4 : Only (SdB b2 gu2 hv2) w3 w4) (f4 : hv4.ownBlock = hv2.ownBlock ∨ ∃ g, hv4.ownBlock = some g ∧ w3.heap.size ≤ g) : Two2 w B Bb b gu b2 gu2 lim w4 hv3 hv4 L' := by
  have z3 := o3.size
  have zb := h.cb.lt
  have zr := h.cr.lt
  have k1 : ∀ i, SdB b gu hv i → i < wr.heap.size := fun i hi => h.s1.blk i hi
  have k2 : ∀ i, SdB b2 gu2 hv2 i → i < wr.heap.size := fun i hi => h.s2.blk i hi
  have n3 : ∀ i, SdB b gu hv3 i → SdB b gu hv i ∨ wr.heap.size ≤ i := fun i hi => by
    rcases hi with e | e | e
    · exact .inl (.inl e)
    · exact .inl (.inr (.inl e))
    · rcases f3 with e' | ⟨g, e', hg⟩
      · exact .inl (.inr (.inr (by rw [← e']; exact e)))
      · rw [e'] at e; injection e with e; exact .inr (by omega)
  have n4 : ∀ i, SdB b2 gu2 hv4 i → SdB b2 gu2 hv2 i ∨ w3.heap.size ≤ i := fun i hi => by
    rcases hi with e | e | e
    · exact .inl (.inl e)
    · exact .inl (.inr (.inl e))
    · rcases f4 with e' | ⟨g, e', hg⟩
      · exact .inl (.inr (.inr (by rw [← e']; exact e)))
      · rw [e'] at e; injection e with e; exact .inr (by omega)
  have k3 : ∀ i, SdB b gu hv3 i → i < w3.heap.size := fun i hi => s3.blk i hi
  have hbw := h.bw
  refine ⟨s3.only o4 (fun i hi hB => ?_), s4, (h.cl.only o3 (fun hB => ?_)).only o4 (fun hB => ?_), (h.cr.only o3 (fun hB => ?_)).only o4 (fun hB => ?_), (h.cb.only o3 (fun hB => ?_)).only o4 (fun hB => ?_), (h.only.thenS o3 (fun i hB => ?_)).thenS o4 (fun i hB => ?_), fun i hi => ?_, fun i hi => ?_, fun i hi hB => ?_, h.bb, h.bw⟩
  · rcases n3 i hi with h1 | h1
    · exact h.ap i h1 hB
    · have := k2 i hB; omega
  · have := h.low1 _ hB; omega
  · have := h.low2 _ hB; omega
  · have := h.low1 _ hB; omega
  · have := h.low2 _ hB; omega
  · exact (h.low1 _ hB).2 rfl
  · exact (h.low2 _ hB).2 rfl
  · have := h.low1 _ hB; omega
  · have := h.low2 _ hB; omega
  · rcases n3 i hi with h1 | h1
    · exact h.low1 i h1
    · omega
  · rcases n4 i hi with h1 | h1
    · exact h.low2 i h1
    · omega
  · rcases n4 i hB with h1 | h1
    · rcases n3 i hi with h2 | h2
      · exact h.ap i h2 h1
      · have := k2 i h1; omega
    · have := k3 i hi; omega

/-- The frame of the loops over prices: its boxes, the price in hand. -/
def hFrame (B Bb b2 : Nat) (x18 x19 x24 x25 : Value) (u : Nat → Value) : Array Value := #[u 0, u 1, u 2, .pointer (some ⟨B, 0, none⟩), .pointer (some ⟨B + 1, 0, none⟩), .bool true, .pointer (some ⟨Bb, 0, none⟩), u 7, .pointer (some ⟨b2, 0, none⟩), u 9, u 10, u 11, u 12, u 13, u 14, u 15, u 16, u 17, x18, x19, u 20, u 21, u 22, u 23, x24, x25, u 26, u 27, u 28, u 29, u 30, u 31, u 32, u 33, u 34, u 35, u 36, u 37, u 38, u 39, u 40, u 41, u 42, u 43, u 44, u 45, u 46, u 47, u 48, u 49, u 50, u 51, u 52, u 53, u 54, u 55, u 56, u 57, u 58, u 59, u 60, u 61, u 62, u 63, u 64, u 65, u 66, u 67, u 68, u 69, u 70, u 71, u 72, u 73, u 74, u 75, u 76, u 77, u 78, u 79, u 80, u 81, u 82, u 83, u 84, u 85, u 86, u 87, u 88, u 89, u 90, u 91, u 92, u 93, u 94, u 95, u 96, u 97, u 98, u 99, u 100, u 101, u 102, u 103, u 104, u 105, u 106, u 107, u 108, u 109, u 110, u 111, u 112, u 113, u 114, u 115, u 116, u 117, u 118, u 119, u 120, u 121, u 122, u 123, u 124, u 125, u 126, u 127, u 128, u 129, u 130, u 131, u 132, u 133, u 134, u 135, u 136, u 137, u 138, u 139, u 140, u 141, u 142, u 143, u 144, u 145, u 146, u 147, u 148, u 149, u 150, u 151, u 152, u 153, u 154, u 155, u 156, u 157, u 158, u 159, u 160, u 161, u 162, u 163, u 164, u 165, u 166, u 167, u 168, u 169, u 170, u 171, u 172]
theorem hF.of {a : Act} {B Bb b2 : Nat} {x18 x19 x24 x25 : Value} {ds : List Deferred} (e : a = { tmps := hFrame B Bb b2 x18 x19 x24 x25 (fun i => a.tmps.toList.getD i undef), defers := ds }) : ∃ x24 x25 u, a = { tmps := hFrame B Bb b2 x18 x19 x24 x25 u, defers := ds } := ⟨_, _, _, e⟩
theorem hF.of2 {a : Act} {B Bb b2 : Nat} {x18 x19 x24 x25 : Value} {ds : List Deferred} (e : a = { tmps := hFrame B Bb b2 x18 x19 x24 x25 (fun i => a.tmps.toList.getD i undef), defers := ds }) : ∃ x18 x19 u, a = { tmps := hFrame B Bb b2 x18 x19 x24 x25 u, defers := ds } := ⟨_, _, _, e⟩

set_option maxHeartbeats 8000000 in
set_option maxRecDepth 100000 in
theorem halves_yes (w : World) (a : Option Addr) (len cap : Nat) (xs : Nat → Int) (Bx off : Nat) (ha : 0 < len → a = some ⟨Bx, off, none⟩ ∧ Bx < w.heap.size) (hx : ∀ k, k < len → w.cell? ⟨Bx, off + k, none⟩ = some (.int .i64 (xs k)) ∧ (Lit.int .i64 (xs k)).wf = true) (lim : Int) (hlen : len ≤ 140737488351232) :
    Calls Try.prog 4 #[.slice a len cap, .int .i64 lim] w fun e w' => e = .returned (.bool true) ∧ Only (fun _ => False) w w' := by
  have S1 := fun W => Lib.hid (show Calls Try.prog 10 #[.int .u8 1, .int .i64 60] W (SdNew W 60 (-1)) from s_new_buy W 60 (by decide))
  have S2 := fun W => Lib.hid (show Calls Try.prog 10 #[.int .u8 2, .int .i64 60] W (SdNew W 60 1) from s_new_sell W 60 (by decide))
  have HA := Lib.hid ha
  have HX := Lib.hid hx
  clear ha hx
  refine callsIn_wide.1 (callsIn_of_wp_marks (n := 14) Try.func4 rfl trivial (wpIn_wide.2 ?_) rfl)
  simp only [Try.ntmps4, List.size_toArray, List.length_cons, List.length_nil, Nat.reduceAdd, Nat.reduceSub, Array.replicate_succ, Array.replicate_zero, List.push_toArray, List.append_toArray, List.nil_append, List.cons_append]
  go_wp2_with fail
  refine (works_walk _).mono ?_
  rintro e w1 ⟨rfl, o1⟩
  have c3 := ((Cell.new (w := w) (cs := #[.int .i64 lim]) (t := 2) (o := 0) rfl).alloc (.cells #[.bool false] 4)).only o1 id
  have c4 := (Cell.new (w := w.alloc (.cells #[.int .i64 lim] 2)) (cs := #[.bool false]) (t := 4) (o := 0) rfl).only o1 id
  rw [World.size_alloc] at c4
  have p1 : Only (fun _ => False) w w1 := (((Only.refl _ w).alloc _).alloc _).trans o1
  have z1 := c4.lt
  obtain ⟨B, hB⟩ : ∃ B, w.heap.size = B := ⟨_, rfl⟩
  rw [hB] at c3 c4 z1
  simp only [hB]
  have HB := Lib.hid hB
  clear hB
  clear o1
  go_wp2_with fail
  refine (S1 _).out.mono ?_
  intro e w2 hq
  obtain ⟨b, gu, rfl, H1, o2, g1, g2⟩ := hq
  have z2 := o2.size
  have hg1 := H1.gul
  have hb1 := H1.c0.lt
  have d3 := c3.only o2 id
  have d4 := c4.only o2 id
  have p2 := p1.trans o2
  have cbx := Cell.new (w := w2) (cs := #[.pointer (some ⟨b, 0, none⟩)]) (t := 25) (o := 0) rfl
  have e3 := d3.alloc (.cells #[.pointer (some ⟨b, 0, none⟩)] 25)
  have e4 := d4.alloc (.cells #[.pointer (some ⟨b, 0, none⟩)] 25)
  have H1' := SideU.only H1 ((Only.refl (fun _ => False) w2).alloc (.cells #[.pointer (some ⟨b, 0, none⟩)] 25)) (fun _ _ => id)
  have p2' := p2.alloc (.cells #[.pointer (some ⟨b, 0, none⟩)] 25)
  clear H1 d3 d4 c3 c4 p1 p2 o2 S1
  go_wp2_with fail
  refine (S2 _).out.mono ?_
  intro e w3 hq
  obtain ⟨b2, gu2, rfl, H2, o3, g3, g4⟩ := hq
  simp only [World.size_alloc] at g3 g4
  have z3 := o3.size
  simp only [World.size_alloc] at z3
  obtain ⟨Bb, hBb⟩ : ∃ Bb, w2.heap.size = Bb := ⟨_, rfl⟩
  have T0 : Two2 w B Bb b gu b2 gu2 lim w3 (.slice none 0 0) (.slice none 0 0) [] := by
    have hbw := HB.out
    refine ⟨SideU.only H1' o3 (fun _ _ => id), H2, e3.only o3 id, e4.only o3 id, ?_, p2'.trans o3, fun i hi => ?_, fun i hi => ?_, fun i hi hj => ?_, by omega, HB.out.symm⟩
    · rw [← hBb]; exact cbx.only o3 id
    · rcases hi with e | e | e
      · omega
      · omega
      · cases e
    · rcases hi with e | e | e
      · omega
      · omega
      · cases e
    · rcases hi with e | e | e
      · rcases hj with e' | e' | e'
        · omega
        · omega
        · cases e'
      · rcases hj with e' | e' | e'
        · omega
        · omega
        · cases e'
      · cases e
  have f6 := T0.cb.cell
  have TT := Lib.hid T0
  simp only [hBb]
  clear hBb H1' H2 e3 e4 cbx p2' o3 S2 z3 g1 g2 g3 g4 hb1 hg1 z1 z2 T0
  have z6 := cell_lt f6
  go_wp2_with fail
  clear f6 z6
  go_loopw [10] (fun s wr => ∃ (k : Nat) (hv hv2 : Value) (L : List Lvl), k ≤ len ∧ s = .int .i64 k ∧ Two2 w B Bb b gu b2 gu2 lim wr hv hv2 L) (fun s _ => len - (intOf s).toNat)
  case atStart => exact ⟨0, _, _, _, by omega, rfl, TT.out⟩
  case round =>
    clear TT
    obtain ⟨k, hv, hv2, L, hk, rfl, hT⟩ := hrel
    have f6 := hT.cb.cell
    have z6 := cell_lt f6
    by_cases hlt : k < len ∧ k < 60
    · obtain ⟨hlt1, hlt2⟩ := hlt
      have t1 : decide (k < len) = true := by simpa using hlt1
      have t2 : decide (k < 60) = true := by simpa using hlt2
      have t2' : decide ((k : Int) < 60) = true := by simp; omega
      obtain ⟨ea, hBx⟩ := HA.out (by omega)
      subst ea
      have r0 := hT.only.cell (HX.out k hlt1).1 id
      have hbr : Bx < wr.heap.size := Nat.lt_of_lt_of_le hBx hT.only.size
      have i1 : (0 : Int) ≤ (k : Int) ∧ (k : Int) < (len : Int) := by omega
      have w1' : IntKind.i64.wrap ((k : Int) + 1) = (k : Int) + 1 := by rw [IntKind.wrap_i64]; omega
      obtain ⟨p, hp⟩ : ∃ p, xs k = p := ⟨_, rfl⟩
      rw [hp] at r0
      clear hp
      have HT := Lib.hid hT
      by_cases h1 : 1 ≤ p
      · have t3 : decide (1 ≤ p) = true := by simpa using h1
        by_cases h2 : p ≤ 1000000000
        · have t4 : decide (p ≤ 1000000000) = true := by simpa using h2
          have w2' : IntKind.i64.wrap (1000000001 - p) = 1000000001 - p := by rw [IntKind.wrap_i64]; omega
          cases hh : has p L with
          | true =>
            have K1 := Lib.hid (s_add_twice hT.s1 p h1 h2 hh)
            have K2 := fun W (o : Only (fun _ => False) wr W) => Lib.hid (s_add_twice (hT.s2.only o (fun _ _ => id)) (1000000001 - p) (by omega) (by omega) (by rw [mir_has]; exact hh))
            clear hT hh
            go_wp2_with fail
            refine K1.out.mono ?_
            rintro e w4 ⟨rfl, o4⟩
            go_wp2_with fail
            refine (K2 w4 o4).out.mono ?_
            rintro e w5 ⟨rfl, o5⟩
            clear K1 K2
            go_wp2_with fail
            go_roundw
            case rel => exact ⟨k + 1, _, _, _, by omega, by go_num, HT.out.keep (o4.trans o5)⟩
            case measure => simp [intOf]; omega
          | false =>
            rcases Nat.lt_or_ge L.length 60 with hl | hl
            · obtain ⟨r, a1, a2, a3⟩ := free_row hl
              have K1 := Lib.hid (s_add hT.s1 p h1 h2 hh r a1 a2 a3 hl)
              have K2 := fun W (o : Only (SdB b gu hv) wr W) => Lib.hid (s_add (hT.s2.only o (fun i hi hb => hT.ap i hb hi)) (1000000001 - p) (by omega) (by omega) (by rw [mir_has]; exact hh) r a1 (by rw [mir_rows]; exact a2) (by rw [mir_rows]; exact a3) (by rw [mir_len]; exact hl))
              simp only [mir_put] at K2
              clear hT hh a2 a3
              go_wp2_with fail
              refine K1.out.mono ?_
              intro e w4 hq
              obtain ⟨hv3, rfl, s3, o4, f3⟩ := hq
              have S3 := Lib.hid s3
              clear s3 K1
              go_wp2_with fail
              refine (K2 w4 o4).out.mono ?_
              intro e w5 hq
              obtain ⟨hv4, rfl, s4, o5, f4⟩ := hq
              have HN := Lib.hid (HT.out.both S3.out o4 f3 s4 o5 f4)
              clear s4 o4 o5 f3 f4 K2
              go_wp2_with fail
              go_roundw
              case rel => exact ⟨k + 1, _, _, _, by omega, by go_num, HN.out⟩
              case measure => simp [intOf]; omega
            · have K1 := Lib.hid (s_add_full hT.s1 p h1 h2 hh hl)
              have K2 := fun W (o : Only (fun _ => False) wr W) => Lib.hid (s_add_full (hT.s2.only o (fun _ _ => id)) (1000000001 - p) (by omega) (by omega) (by rw [mir_has]; exact hh) (by rw [mir_len]; exact hl))
              clear hT hh
              go_wp2_with fail
              refine K1.out.mono ?_
              rintro e w4 ⟨rfl, o4⟩
              go_wp2_with fail
              refine (K2 w4 o4).out.mono ?_
              rintro e w5 ⟨rfl, o5⟩
              clear K1 K2
              go_wp2_with fail
              go_roundw
              case rel => exact ⟨k + 1, _, _, _, by omega, by go_num, HT.out.keep (o4.trans o5)⟩
              case measure => simp [intOf]; omega
        · have t4 : decide (p ≤ 1000000000) = false := by simpa using h2
          clear hT
          go_wp2_with fail
          go_roundw
          case rel => exact ⟨k + 1, _, _, _, by omega, by go_num, HT.out⟩
          case measure => simp [intOf]; omega
      · have t3 : decide (1 ≤ p) = false := by simpa using h1
        clear hT
        go_wp2_with fail
        go_roundw
        case rel => exact ⟨k + 1, _, _, _, by omega, by go_num, HT.out⟩
        case measure => simp [intOf]; omega
    · by_cases hlt1 : k < len
      · have t1 : decide (k < len) = true := by simpa using hlt1
        have t2 : decide (k < 60) = false := by simp; omega
        have t2' : decide ((k : Int) < 60) = false := by simp; omega
        have hL1 := Lib.hid (s_len hT.s1)
        have hL2 := Lib.hid (s_len hT.s2)
        rw [mir_len] at hL2
        have cl := hT.cl.cell
        have cr := hT.cr.cell
        have crf := hT.cr.free
        have zl := cell_lt cl
        have zr := cell_lt cr
        have hln := hT.s1.len
        obtain ⟨N, hN⟩ : ∃ N, N = L.length := ⟨_, rfl⟩
        rw [← hN] at hL1 hL2 hln
        have tn : (N != N) = false := by simp
        have tn' : ((N : Int) != (N : Int)) = false := by simp
        have te : (N == N) = true := by simp
        have te' : ((N : Int) == (N : Int)) = true := by simp
        have HN := Lib.hid hN
        have HT := Lib.hid hT
        clear hT hN
        by_cases h1 : lim < 1
        · have t3 : decide (lim < 1) = true := by simpa using h1
          go_wp2_with fail
          refine hL1.out.mono ?_
          rintro e w4 ⟨rfl, rfl⟩
          go_wp2_with fail
          refine hL2.out.mono ?_
          rintro e w5 ⟨rfl, rfl⟩
          go_wp2_with fail
          refine leaves_marks [] _ List.nodup_nil (fun E hE => by simp at hE) (fun w' ho' => ?_)
          have hc := ((HT.out.cr.set (.bool true)).only ho' (by simp)).cell
          have hbw := HT.out.bw
          refine ⟨.bool true, ?_, rfl, ((HT.out.only.setCell (p := ⟨B + 1, 0, none⟩) (.inr (by show w.heap.size ≤ B + 1; omega)) _).trans' ho' (fun i hi hD => by simp at hD))⟩
          simp [results, Try.f4, go_sem, hc]
        · have t3 : decide (lim < 1) = false := by simpa using h1
          by_cases h2 : 1000000000 < lim
          · have t4 : decide (1000000000 < lim) = true := by simpa using h2
            go_wp2_with fail
            refine hL1.out.mono ?_
            rintro e w4 ⟨rfl, rfl⟩
            go_wp2_with fail
            refine hL2.out.mono ?_
            rintro e w5 ⟨rfl, rfl⟩
            go_wp2_with fail
            refine leaves_marks [] _ List.nodup_nil (fun E hE => by simp at hE) (fun w' ho' => ?_)
            have hc := ((HT.out.cr.set (.bool true)).only ho' (by simp)).cell
            have hbw := HT.out.bw
            refine ⟨.bool true, ?_, rfl, ((HT.out.only.setCell (p := ⟨B + 1, 0, none⟩) (.inr (by show w.heap.size ≤ B + 1; omega)) _).trans' ho' (fun i hi hD => by simp at hD))⟩
            simp [results, Try.f4, go_sem, hc]
          · have t4 : decide (1000000000 < lim) = false := by simpa using h2
            go_wp2_with fail
            refine hL1.out.mono ?_
            rintro e w4 ⟨rfl, rfl⟩
            go_wp2_with fail
            refine hL2.out.mono ?_
            rintro e w5 ⟨rfl, rfl⟩
            clear hL1 hL2
            go_wp2_with fail
            refine (s_upto _ b lim).mono ?_
            rintro e w6 ⟨rfl, rfl⟩
            go_wp2_with fail
            have T4 := HT.out.keep ((((Only.refl (fun _ => False) wr).alloc (.cells #[.int .i64 0] 3)).alloc (.cells #[.pointer (some ⟨b, 0, none⟩)] 25)).alloc (.cells #[.int .i64 lim] 2))
            have ck := ((Cell.new (w := wr) (cs := #[.int .i64 0]) (t := 3) (o := 0) rfl).alloc (.cells #[.pointer (some ⟨b, 0, none⟩)] 25)).alloc (.cells #[.int .i64 lim] 2)
            have cs := (Cell.new (w := wr.alloc (.cells #[.int .i64 0] 3)) (cs := #[.pointer (some ⟨b, 0, none⟩)]) (t := 25) (o := 0) rfl).alloc (.cells #[.int .i64 lim] 2)
            have cm := Cell.new (w := (wr.alloc (.cells #[.int .i64 0] 3)).alloc (.cells #[.pointer (some ⟨b, 0, none⟩)] 25)) (cs := #[.int .i64 lim]) (t := 2) (o := 0) rfl
            obtain ⟨W4, hW4⟩ : ∃ W4, ((wr.alloc (.cells #[.int .i64 0] 3)).alloc (.cells #[.pointer (some ⟨b, 0, none⟩)] 25)).alloc (.cells #[.int .i64 lim] 2) = W4 := ⟨_, rfl⟩
            have sW4 : W4.heap.size = wr.heap.size + 1 + 1 + 1 := by rw [← hW4]; simp only [World.size_alloc]
            simp only [World.size_alloc] at cs cm
            rw [hW4] at T4 ck cs cm ⊢
            clear hW4
            obtain ⟨Bk, hBk⟩ : ∃ Bk, wr.heap.size = Bk := ⟨_, rfl⟩
            have zk1 : ∀ i, SdB b gu hv i → i < Bk := fun i hi => by have := HT.out.s1.blk i hi; omega
            have zk2 : ∀ i, SdB b2 gu2 hv2 i → i < Bk := fun i hi => by have := HT.out.s2.blk i hi; omega
            have zk3 : B + 1 < Bk ∧ Bb < Bk := by have := HT.out.cr.lt; have := HT.out.cb.lt; omega
            simp only [hBk] at ck cs cm sW4 ⊢
            have hl0 : lim ≠ 0 := by omega
            obtain ⟨U, hU⟩ : ∃ U, U = uptoL (-1) lim L := ⟨_, rfl⟩
            have hUt := upto_take (sg := -1) hl0 L
            have hUn : uptoN (-1) lim L = U.length := by rw [hU]; rfl
            rw [← hU, hUn] at hUt
            have hUl : U.length ≤ L.length := by rw [hUt]; exact List.length_take_le' _ _
            have hget : ∀ j, j < U.length → ∃ z, L[j]? = some z ∧ (U.map Prod.fst)[j]? = some z.1 ∧ lim ≤ z.1 := fun j hj => by
              obtain ⟨z, hz⟩ : ∃ z, L[j]? = some z := ⟨_, List.getElem?_eq_getElem (by omega)⟩
              have h1 := upto_in (.inr rfl) hl0 HT.out.s1.srt (by rw [hUn]; exact hj) hz
              refine ⟨z, hz, ?_, by omega⟩
              rw [List.getElem?_map, hUt, List.getElem?_take, if_pos hj, hz]; rfl
            have HGET := Lib.hid hget
            have HUE := Lib.hid hU
            have HUL := Lib.hid hUl
            have HUN := Lib.hid hUn
            have HT4 := Lib.hid T4
            have HCS := Lib.hid cs
            have HCM := Lib.hid cm
            have hap := T4.ap
            clear hget hUt hUn hUl hU T4 cs cm hBk cl cr crf zl zr
            have ks : ∀ i, SdB b gu hv i → i < W4.heap.size := fun i hi => by have := zk1 i hi; omega
            refine (wpIn_wide (n := 14)).1 ?_
            refine wpIn_rangeFunc_ownH rfl (by decide) (gf := 45) (lb := #[.pointer (some ⟨Bk + 1, 0, none⟩), .pointer (some ⟨Bk + 1 + 1, 0, none⟩)]) rfl trivial (enters_of Try.func45 (by kernel_rfl) rfl)
              (upto_stops 13 (by decide) W4 (Bk + 1) (Bk + 1 + 1) b gu 60 (-1) lim hv L HCS.out.cell HCM.out.cell HT4.out.s1)
              KeepB.trans (KeepB.put ks) (Below.refl _ _) (fun _ => rfl)
              (HI W4 Bk (U.map Prod.fst)) (fun _ pre _ => ¬ pre.map Prod.fst <+: U.map Prod.fst)
              (HI.own (Nat.le_refl _) (by omega)) (fun _ _ _ _ _ h _ _ => h) ⟨List.nil_prefix, Only.refl _ _, ck⟩
              (fun x a' _ => ∃ x24 x25 u, a' = { tmps := hFrame B Bb b2 (.pointer (some ⟨Bk, 0, none⟩)) (.int .i64 x.1) x24 x25 u, defers := [] })
              (fun _ _ _ _ _ _ hs _ _ => hs)
              ?assign ?body ?done ?stop
            case assign =>
              intro l pre x W K hi hK
              unfold encU
              gi_wp2
              exact hK _ _ (KeepsFrom.refl _ _) (KeepB.refl _ _) hi (hF.of (x24 := undef) (x25 := undef) (by kernel_rfl))
            case stop => exact fun D c pre W' _ h1 h2 _ => absurd (by rw [← HUE.out] at h1; exact h1.map Prod.fst) h2
            case body =>
              intro l pre x a' W hl hrec hI hA hlen
              obtain ⟨x24, x25, u, rfl⟩ := hA
              obtain ⟨xp, xr⟩ := x
              rw [← HUE.out] at hlen
              obtain ⟨y, hy, hyes, hno⟩ := told_next hI.pf (by rw [List.length_map]; exact hlen)
              obtain ⟨z, hz, hz2, hz3⟩ := HGET.out pre.length hlen
              rw [hy] at hz2
              injection hz2 with hz2
              have nk : ∀ i, SdB b gu hv i → ¬ i = Bk := fun i hi => by have := zk1 i hi; omega
              have f6 := (HT4.out.cb.only hI.only (by show ¬ (Bb = Bk); omega)).cell
              have f3 := (HT4.out.cl.only hI.only (by show ¬ (B = Bk); omega)).cell
              have f4 := HT4.out.cr.only hI.only (by show ¬ (B + 1 = Bk); omega)
              have f4c := f4.cell
              have f4f := f4.free
              have fk := hI.ck.cell
              have fkf := hI.ck.free
              have HAT := Lib.hid (CallsIn.inRound l (callsIn_wide (n := 14 - 1 - 1 - 1).2 (s_at (SideU.only HT4.out.s1 hI.only nk) pre.length z hz)))
              have hpl : pre.length ≤ 128 := by have := HT4.out.s1.len; have := HUL.out; omega
              obtain ⟨p, hp⟩ : ∃ p, p = pre.length := ⟨_, rfl⟩
              rw [← hp] at fk HAT hpl
              have w1' : IntKind.i64.wrap ((p : Int) + 1) = (p : Int) + 1 := by rw [IntKind.wrap_i64]; omega
              obtain ⟨zp, zr⟩ := z
              simp only at HAT hz2 hz3
              subst hz2
              have HI' := Lib.hid hI
              have HYES := Lib.hid hyes
              have HNO := Lib.hid hno
              have HP := Lib.hid hp
              clear hI hyes hno hy hz hp
              by_cases h5 : y = xp
              · subst h5
                have t5 : (y != y) = false := by simp
                have t6 : decide (y < lim) = false := by simp; omega
                dsimp only [hFrame]
                gi_wp2_with fail
                refine ⟨trivial, ?_⟩
                refine HAT.out.mono ?_
                rintro e w7 ⟨rfl, rfl⟩
                gi_wp2
                have ho := (Only.refl (· = Bk) W).setCell (p := ⟨Bk, 0, none⟩) (.inl rfl) (.int .i64 ((p : Int) + 1))
                refine ⟨keepsFrom_of_only ho (fun i e => by omega), KeepB.only ho (fun i hi => ⟨by have := ks i hi; have := HI'.out.only.size; omega, nk i hi⟩), ⟨HYES.out _ rfl, HI'.out.only.trans ho, ?_⟩⟩
                rw [List.length_append, ← HP.out]; exact HI'.out.ck.set _
              · have t5 : (y != xp) = true := by simpa using h5
                dsimp only [hFrame]
                gi_wp2_with fail
                refine ⟨trivial, ?_⟩
                refine HAT.out.mono ?_
                rintro e w7 ⟨rfl, rfl⟩
                gi_wp2
                exact ⟨keepsFrom_of_only (T := (· = B + 1)) ((Only.refl (· = B + 1) W).setCell (p := ⟨B + 1, 0, none⟩) (.inl rfl) _) (fun i e => by omega), HNO.out _ (fun e => h5 e.symm)⟩
            case done =>
              intro D ys W hD hys hI hdd
              rw [← HUE.out] at hys
              subst hys
              have nk : ∀ i, SdB b gu hv i → ¬ i = Bk := fun i hi => by have := zk1 i hi; omega
              have nk2 : ∀ i, SdB b2 gu2 hv2 i → ¬ i = Bk := fun i hi => by have := zk2 i hi; omega
              have f6 := (HT4.out.cb.only hI.only (by show ¬ (Bb = Bk); omega)).cell
              have f3 := (HT4.out.cl.only hI.only (by show ¬ (B = Bk); omega)).cell
              have f4 := HT4.out.cr.only hI.only (by show ¬ (B + 1 = Bk); omega)
              have s1 := SideU.only HT4.out.s1 hI.only nk
              have s2 := SideU.only HT4.out.s2 hI.only nk2
              have fk := hI.ck.cell
              have z6 := cell_lt f6
              have z3 := cell_lt f3
              have zk := cell_lt fk
              have hbw := HT4.out.bw
              have ow : Only (fun _ => False) w W := HT4.out.only.trans' hI.only (fun i hi e => by omega)
              obtain ⟨n, hn⟩ : ∃ n, n = ys.length := ⟨_, rfl⟩
              rw [← hn] at fk
              have hnl : n ≤ 128 := by have := s1.len; have := HUL.out; omega
              have w1' : IntKind.i64.wrap (1000000001 - lim) = 1000000001 - lim := by rw [IntKind.wrap_i64]; omega
              have HS1 := Lib.hid s1
              have HS2 := Lib.hid s2
              have HF4 := Lib.hid f4
              have HOW := Lib.hid ow
              have HDD := Lib.hid hdd
              have HNE := Lib.hid hn
              have HCK := Lib.hid hI.ck
              have HCB := Lib.hid (HT4.out.cb.only hI.only (by show ¬ (Bb = Bk); omega))
              clear hI hdd ow f4 s1 s2 hbw hn
              rcases Nat.lt_or_ge n L.length with h5 | h5
              · obtain ⟨z, hz⟩ : ∃ z, L[n]? = some z := ⟨_, List.getElem?_eq_getElem h5⟩
                have hz3 : z.1 < lim := by
                  have := upto_out (.inr rfl) hl0 HT4.out.s1.srt (x := z) (by rw [HUN.out, ← HNE.out]; exact hz)
                  omega
                have HAT := Lib.hid (s_at HS1.out n z hz)
                obtain ⟨zp, zr⟩ := z
                simp only at HAT hz3
                have t7 : decide (lim ≤ zp) = false := by simp; omega
                clear hz hz3
                go_wp2_with fail
                refine HAT.out.mono ?_
                rintro e w7 ⟨rfl, rfl⟩
                go_wp2_with fail
                refine (s_upto _ b2 (1000000001 - lim)).mono ?_
                rintro e w8 ⟨rfl, rfl⟩
                go_wp2_with fail
                have v1 := ((Cell.new (w := W) (cs := #[.int .i64 0]) (t := 3) (o := 0) rfl).alloc (.cells #[.pointer (some ⟨b2, 0, none⟩)] 25)).alloc (.cells #[.int .i64 (1000000001 - lim)] 2)
                have v2 := (Cell.new (w := W.alloc (.cells #[.int .i64 0] 3)) (cs := #[.pointer (some ⟨b2, 0, none⟩)]) (t := 25) (o := 0) rfl).alloc (.cells #[.int .i64 (1000000001 - lim)] 2)
                have v3 := Cell.new (w := (W.alloc (.cells #[.int .i64 0] 3)).alloc (.cells #[.pointer (some ⟨b2, 0, none⟩)] 25)) (cs := #[.int .i64 (1000000001 - lim)]) (t := 2) (o := 0) rfl
                have o5 := (((Only.refl (fun _ => False) W).alloc (.cells #[.int .i64 0] 3)).alloc (.cells #[.pointer (some ⟨b2, 0, none⟩)] 25)).alloc (.cells #[.int .i64 (1000000001 - lim)] 2)
                obtain ⟨W5, hW5⟩ : ∃ W5, ((W.alloc (.cells #[.int .i64 0] 3)).alloc (.cells #[.pointer (some ⟨b2, 0, none⟩)] 25)).alloc (.cells #[.int .i64 (1000000001 - lim)] 2) = W5 := ⟨_, rfl⟩
                have sW5 : W5.heap.size = W.heap.size + 1 + 1 + 1 := by rw [← hW5]; simp only [World.size_alloc]
                simp only [World.size_alloc] at v2 v3
                rw [hW5] at v1 v2 v3 o5 ⊢
                clear hW5
                have hsz := HCK.out.lt
                have hsB := HF4.out.lt
                obtain ⟨Bi, hBi⟩ : ∃ Bi, W.heap.size = Bi := ⟨_, rfl⟩
                simp only [hBi] at v1 v2 v3 sW5 hsz hsB ⊢
                have s15 := SideU.only HS1.out o5 (fun _ _ => id)
                have s25 := SideU.only HS2.out o5 (fun _ _ => id)
                have ki : ∀ i, SdB b gu hv i → i < Bi := fun i hi => by have := HS1.out.blk i hi; omega
                have ki2 : ∀ i, SdB b2 gu2 hv2 i → i < Bi := fun i hi => by have := HS2.out.blk i hi; omega
                have ks2 : ∀ i, SdB b2 gu2 hv2 i → i < W5.heap.size := fun i hi => by have := ki2 i hi; omega
                have cb5 := HCB.out.only o5 id
                have cr5 := HF4.out.only o5 id
                have ck5 := HCK.out.only o5 id
                have hzB : Bb < Bi := by have := HCB.out.lt; omega
                have hgm : ∀ j, j < ys.length → ∃ z, L[j]? = some z ∧ ((mir ys).map Prod.fst)[j]? = some (1000000001 - z.1) ∧ 1 ≤ z.1 ∧ z.1 ≤ 1000000000 := fun j hj => by
                  obtain ⟨z, hz, hz2, _⟩ := HGET.out j hj
                  refine ⟨z, hz, ?_, HS1.out.pr z (List.mem_of_getElem? hz)⟩
                  rw [List.getElem?_map] at hz2
                  obtain ⟨y, hy, hy2⟩ := Option.map_eq_some_iff.1 hz2
                  rw [List.getElem?_map, mir_get, hy]
                  simp [hy2]
                have um : uptoL 1 (1000000001 - lim) (mir L) = mir ys := by rw [upto_mir (by omega) (by omega), HUE.out]
                have HGM := Lib.hid hgm
                have HS15 := Lib.hid s15
                have HCB5 := Lib.hid cb5
                have HCR5 := Lib.hid cr5
                have HCK5 := Lib.hid ck5
                have HO5 := Lib.hid o5
                have HUM := Lib.hid um
                have HBI := Lib.hid hBi
                clear hgm s15 cb5 cr5 ck5 o5 um hBi
                refine (wpIn_wide (n := 14)).1 ?_
                refine wpIn_rangeFunc_ownH rfl (by decide) (gf := 45) (lb := #[.pointer (some ⟨Bi + 1, 0, none⟩), .pointer (some ⟨Bi + 1 + 1, 0, none⟩)]) rfl trivial (enters_of Try.func45 (by kernel_rfl) rfl)
                  (upto_stops 13 (by decide) W5 (Bi + 1) (Bi + 1 + 1) b2 gu2 60 1 (1000000001 - lim) hv2 (mir L) v2.cell v3.cell s25)
                  KeepB.trans (KeepB.put ks2) (Below.refl _ _) (fun _ => rfl)
                  (HI W5 Bi ((mir ys).map Prod.fst)) (fun _ pre _ => ¬ pre.map Prod.fst <+: (mir ys).map Prod.fst)
                  (HI.own (Nat.le_refl _) (by omega)) (fun _ _ _ _ _ h _ _ => h) ⟨List.nil_prefix, Only.refl _ _, v1⟩
                  (fun x a' _ => ∃ x18 x19 u, a' = { tmps := hFrame B Bb b2 x18 x19 (.pointer (some ⟨Bi, 0, none⟩)) (.int .i64 x.1) u, defers := [] })
                  (fun _ _ _ _ _ _ hs _ _ => hs)
                  ?assign2 ?body2 ?done2 ?stop2
                case assign2 =>
                  intro l pre x W6 K hi hK
                  unfold encU
                  gi_wp2
                  exact hK _ _ (KeepsFrom.refl _ _) (KeepB.refl _ _) hi (hF.of2 (x18 := .pointer (some ⟨Bk, 0, none⟩)) (x19 := undef) (by kernel_rfl))
                case stop2 => exact fun D c pre W' _ h1 h2 _ => absurd (by rw [HUM.out] at h1; exact h1.map Prod.fst) h2
                case body2 =>
                  intro l pre x a' W6 hl hrec hI hA hlen
                  obtain ⟨x18, x19, u, rfl⟩ := hA
                  obtain ⟨xp, xr⟩ := x
                  rw [HUM.out] at hlen
                  obtain ⟨y, hy, hyes, hno⟩ := told_next hI.pf (by rw [List.length_map]; exact hlen)
                  rw [mir_len] at hlen
                  obtain ⟨z, hz, hz2, hz3, hz4⟩ := HGM.out pre.length hlen
                  rw [hy] at hz2
                  injection hz2 with hz2
                  have nk : ∀ i, SdB b gu hv i → ¬ i = Bi := fun i hi => by have := ki i hi; omega
                  have f6 := (HCB5.out.only hI.only (by show ¬ (Bb = Bi); omega)).cell
                  have f4 := HCR5.out.only hI.only (by show ¬ (B + 1 = Bi); omega)
                  have f4c := f4.cell
                  have f4f := f4.free
                  have fk := hI.ck.cell
                  have fkf := hI.ck.free
                  have HAT := Lib.hid (CallsIn.inRound l (callsIn_wide (n := 14 - 1 - 1 - 1).2 (s_at (SideU.only HS15.out hI.only nk) pre.length z hz)))
                  have hpl : pre.length ≤ 128 := by have := HS15.out.len; have := HUL.out; omega
                  obtain ⟨p, hp⟩ : ∃ p, p = pre.length := ⟨_, rfl⟩
                  rw [← hp] at fk HAT hpl
                  have w1' : IntKind.i64.wrap ((p : Int) + 1) = (p : Int) + 1 := by rw [IntKind.wrap_i64]; omega
                  obtain ⟨zp, zr⟩ := z
                  simp only at HAT hz2 hz3 hz4
                  subst hz2
                  have w2' : IntKind.i64.wrap (1000000001 - zp) = 1000000001 - zp := by rw [IntKind.wrap_i64]; omega
                  have HI' := Lib.hid hI
                  have HYES := Lib.hid hyes
                  have HNO := Lib.hid hno
                  have HP := Lib.hid hp
                  clear hI hyes hno hy hz hp
                  by_cases h8 : xp = 1000000001 - zp
                  · have t5 : (xp != 1000000001 - zp) = false := by simpa using h8
                    have HX8 := Lib.hid h8
                    clear h8
                    dsimp only [hFrame]
                    gi_wp2_with fail
                    refine ⟨trivial, ?_⟩
                    refine HAT.out.mono ?_
                    rintro e w7 ⟨rfl, rfl⟩
                    gi_wp2
                    have ho := (Only.refl (· = Bi) W6).setCell (p := ⟨Bi, 0, none⟩) (.inl rfl) (.int .i64 ((p : Int) + 1))
                    refine ⟨keepsFrom_of_only ho (fun i e => by omega), KeepB.only ho (fun i hi => ⟨by have := ks2 i hi; have := HI'.out.only.size; omega, ?_⟩), ⟨HYES.out _ HX8.out, HI'.out.only.trans ho, ?_⟩⟩
                    · have := ki2 i hi; show ¬ (i = Bi); omega
                    · rw [List.length_append, ← HP.out]; exact HI'.out.ck.set _
                  · have t5 : (xp != 1000000001 - zp) = true := by simpa using h8
                    dsimp only [hFrame]
                    gi_wp2_with fail
                    refine ⟨trivial, ?_⟩
                    refine HAT.out.mono ?_
                    rintro e w7 ⟨rfl, rfl⟩
                    gi_wp2
                    exact ⟨keepsFrom_of_only (T := (· = B + 1)) ((Only.refl (· = B + 1) W6).setCell (p := ⟨B + 1, 0, none⟩) (.inl rfl) _) (fun i e => by omega), HNO.out _ h8⟩
                case done2 =>
                  intro D' zs W6 hD' hzs hI hdd'
                  rw [HUM.out] at hzs
                  subst hzs
                  have fi := hI.ck.cell
                  rw [mir_len, ← HNE.out] at fi
                  have fk := (HCK5.out.only hI.only (by show ¬ (Bk = Bi); omega)).cell
                  rw [← HNE.out] at fk
                  have f4 := HCR5.out.only hI.only (by show ¬ (B + 1 = Bi); omega)
                  have f4c := f4.cell
                  have f4f := f4.free
                  have zi := cell_lt fi
                  have zk5 := cell_lt fk
                  have z4 := cell_lt f4c
                  have tq : (n == n) = true := by simp
                  have hbw := HT4.out.bw
                  have ow6 : Only (fun _ => False) w W6 := (HOW.out.trans HO5.out).trans' hI.only (fun i hi e => by omega)
                  have hd6 : W6.heap[D]? = some (.deferred (some [])) := by
                    have h1 := (Array.getElem?_eq_some_iff.1 HDD.out).1
                    have h2 := HO5.out.block D h1 id
                    have h3 := hI.only.block D (by have := HO5.out.size; omega) (by show ¬ (D = Bi); have := HBI.out; omega)
                    exact h3.trans (h2.trans HDD.out)
                  have HF4' := Lib.hid f4
                  have HOW6 := Lib.hid ow6
                  have HD6 := Lib.hid hd6
                  have HDD' := Lib.hid hdd'
                  have HBW := Lib.hid hbw
                  clear hI f4 ow6 hd6 hdd' hbw
                  go_wp2_with fail
                  have hbw := HBW.out
                  refine leaves_marks [D', D] _ (by have := (Array.getElem?_eq_some_iff.1 HDD.out).1; have := HO5.out.size; simp; omega) (fun E hE => ?_) (fun w' ho' => ?_)
                  · simp only [List.mem_cons, List.mem_nil_iff, or_false] at hE
                    have := HO5.out.size
                    rcases hE with e | e
                    · subst e; rw [Below.heap_setCell _ _ _ _ (by show E ≠ B + 1; omega)]; exact HDD'.out
                    · subst e; rw [Below.heap_setCell _ _ _ _ (by show E ≠ B + 1; omega)]; exact HD6.out
                  · have := HO5.out.size
                    have hc := ((HF4'.out.set (.bool true)).only ho' (fun hD => by simp only [List.mem_cons, List.mem_nil_iff, or_false] at hD; omega)).cell
                    refine ⟨.bool true, ?_, rfl, ?_⟩
                    · simp [results, Try.f4, go_sem, hc]
                    · exact (HOW6.out.setCell (p := ⟨B + 1, 0, none⟩) (.inr (by show w.heap.size ≤ B + 1; omega)) _).trans' ho' (fun i hi hD => by simp only [List.mem_cons, List.mem_nil_iff, or_false] at hD; omega)
              · have HNO := Lib.hid (s_at_no HS1.out n (.inr (by omega)))
                go_wp2_with fail
                refine HNO.out.mono ?_
                rintro e w7 ⟨rfl, rfl⟩
                go_wp2_with fail
                refine (s_upto _ b2 (1000000001 - lim)).mono ?_
                rintro e w8 ⟨rfl, rfl⟩
                go_wp2_with fail
                have v1 := ((Cell.new (w := W) (cs := #[.int .i64 0]) (t := 3) (o := 0) rfl).alloc (.cells #[.pointer (some ⟨b2, 0, none⟩)] 25)).alloc (.cells #[.int .i64 (1000000001 - lim)] 2)
                have v2 := (Cell.new (w := W.alloc (.cells #[.int .i64 0] 3)) (cs := #[.pointer (some ⟨b2, 0, none⟩)]) (t := 25) (o := 0) rfl).alloc (.cells #[.int .i64 (1000000001 - lim)] 2)
                have v3 := Cell.new (w := (W.alloc (.cells #[.int .i64 0] 3)).alloc (.cells #[.pointer (some ⟨b2, 0, none⟩)] 25)) (cs := #[.int .i64 (1000000001 - lim)]) (t := 2) (o := 0) rfl
                have o5 := (((Only.refl (fun _ => False) W).alloc (.cells #[.int .i64 0] 3)).alloc (.cells #[.pointer (some ⟨b2, 0, none⟩)] 25)).alloc (.cells #[.int .i64 (1000000001 - lim)] 2)
                obtain ⟨W5, hW5⟩ : ∃ W5, ((W.alloc (.cells #[.int .i64 0] 3)).alloc (.cells #[.pointer (some ⟨b2, 0, none⟩)] 25)).alloc (.cells #[.int .i64 (1000000001 - lim)] 2) = W5 := ⟨_, rfl⟩
                have sW5 : W5.heap.size = W.heap.size + 1 + 1 + 1 := by rw [← hW5]; simp only [World.size_alloc]
                simp only [World.size_alloc] at v2 v3
                rw [hW5] at v1 v2 v3 o5 ⊢
                clear hW5
                have hsz := HCK.out.lt
                have hsB := HF4.out.lt
                obtain ⟨Bi, hBi⟩ : ∃ Bi, W.heap.size = Bi := ⟨_, rfl⟩
                simp only [hBi] at v1 v2 v3 sW5 hsz hsB ⊢
                have s15 := SideU.only HS1.out o5 (fun _ _ => id)
                have s25 := SideU.only HS2.out o5 (fun _ _ => id)
                have ki : ∀ i, SdB b gu hv i → i < Bi := fun i hi => by have := HS1.out.blk i hi; omega
                have ki2 : ∀ i, SdB b2 gu2 hv2 i → i < Bi := fun i hi => by have := HS2.out.blk i hi; omega
                have ks2 : ∀ i, SdB b2 gu2 hv2 i → i < W5.heap.size := fun i hi => by have := ki2 i hi; omega
                have cb5 := HCB.out.only o5 id
                have cr5 := HF4.out.only o5 id
                have ck5 := HCK.out.only o5 id
                have hzB : Bb < Bi := by have := HCB.out.lt; omega
                have hgm : ∀ j, j < ys.length → ∃ z, L[j]? = some z ∧ ((mir ys).map Prod.fst)[j]? = some (1000000001 - z.1) ∧ 1 ≤ z.1 ∧ z.1 ≤ 1000000000 := fun j hj => by
                  obtain ⟨z, hz, hz2, _⟩ := HGET.out j hj
                  refine ⟨z, hz, ?_, HS1.out.pr z (List.mem_of_getElem? hz)⟩
                  rw [List.getElem?_map] at hz2
                  obtain ⟨y, hy, hy2⟩ := Option.map_eq_some_iff.1 hz2
                  rw [List.getElem?_map, mir_get, hy]
                  simp [hy2]
                have um : uptoL 1 (1000000001 - lim) (mir L) = mir ys := by rw [upto_mir (by omega) (by omega), HUE.out]
                have HGM := Lib.hid hgm
                have HS15 := Lib.hid s15
                have HCB5 := Lib.hid cb5
                have HCR5 := Lib.hid cr5
                have HCK5 := Lib.hid ck5
                have HO5 := Lib.hid o5
                have HUM := Lib.hid um
                have HBI := Lib.hid hBi
                clear hgm s15 cb5 cr5 ck5 o5 um hBi
                refine (wpIn_wide (n := 14)).1 ?_
                refine wpIn_rangeFunc_ownH rfl (by decide) (gf := 45) (lb := #[.pointer (some ⟨Bi + 1, 0, none⟩), .pointer (some ⟨Bi + 1 + 1, 0, none⟩)]) rfl trivial (enters_of Try.func45 (by kernel_rfl) rfl)
                  (upto_stops 13 (by decide) W5 (Bi + 1) (Bi + 1 + 1) b2 gu2 60 1 (1000000001 - lim) hv2 (mir L) v2.cell v3.cell s25)
                  KeepB.trans (KeepB.put ks2) (Below.refl _ _) (fun _ => rfl)
                  (HI W5 Bi ((mir ys).map Prod.fst)) (fun _ pre _ => ¬ pre.map Prod.fst <+: (mir ys).map Prod.fst)
                  (HI.own (Nat.le_refl _) (by omega)) (fun _ _ _ _ _ h _ _ => h) ⟨List.nil_prefix, Only.refl _ _, v1⟩
                  (fun x a' _ => ∃ x18 x19 u, a' = { tmps := hFrame B Bb b2 x18 x19 (.pointer (some ⟨Bi, 0, none⟩)) (.int .i64 x.1) u, defers := [] })
                  (fun _ _ _ _ _ _ hs _ _ => hs)
                  ?assign2 ?body2 ?done2 ?stop2
                case assign2 =>
                  intro l pre x W6 K hi hK
                  unfold encU
                  gi_wp2
                  exact hK _ _ (KeepsFrom.refl _ _) (KeepB.refl _ _) hi (hF.of2 (x18 := .pointer (some ⟨Bk, 0, none⟩)) (x19 := undef) (by kernel_rfl))
                case stop2 => exact fun D c pre W' _ h1 h2 _ => absurd (by rw [HUM.out] at h1; exact h1.map Prod.fst) h2
                case body2 =>
                  intro l pre x a' W6 hl hrec hI hA hlen
                  obtain ⟨x18, x19, u, rfl⟩ := hA
                  obtain ⟨xp, xr⟩ := x
                  rw [HUM.out] at hlen
                  obtain ⟨y, hy, hyes, hno⟩ := told_next hI.pf (by rw [List.length_map]; exact hlen)
                  rw [mir_len] at hlen
                  obtain ⟨z, hz, hz2, hz3, hz4⟩ := HGM.out pre.length hlen
                  rw [hy] at hz2
                  injection hz2 with hz2
                  have nk : ∀ i, SdB b gu hv i → ¬ i = Bi := fun i hi => by have := ki i hi; omega
                  have f6 := (HCB5.out.only hI.only (by show ¬ (Bb = Bi); omega)).cell
                  have f4 := HCR5.out.only hI.only (by show ¬ (B + 1 = Bi); omega)
                  have f4c := f4.cell
                  have f4f := f4.free
                  have fk := hI.ck.cell
                  have fkf := hI.ck.free
                  have HAT := Lib.hid (CallsIn.inRound l (callsIn_wide (n := 14 - 1 - 1 - 1).2 (s_at (SideU.only HS15.out hI.only nk) pre.length z hz)))
                  have hpl : pre.length ≤ 128 := by have := HS15.out.len; have := HUL.out; omega
                  obtain ⟨p, hp⟩ : ∃ p, p = pre.length := ⟨_, rfl⟩
                  rw [← hp] at fk HAT hpl
                  have w1' : IntKind.i64.wrap ((p : Int) + 1) = (p : Int) + 1 := by rw [IntKind.wrap_i64]; omega
                  obtain ⟨zp, zr⟩ := z
                  simp only at HAT hz2 hz3 hz4
                  subst hz2
                  have w2' : IntKind.i64.wrap (1000000001 - zp) = 1000000001 - zp := by rw [IntKind.wrap_i64]; omega
                  have HI' := Lib.hid hI
                  have HYES := Lib.hid hyes
                  have HNO := Lib.hid hno
                  have HP := Lib.hid hp
                  clear hI hyes hno hy hz hp
                  by_cases h8 : xp = 1000000001 - zp
                  · have t5 : (xp != 1000000001 - zp) = false := by simpa using h8
                    have HX8 := Lib.hid h8
                    clear h8
                    dsimp only [hFrame]
                    gi_wp2_with fail
                    refine ⟨trivial, ?_⟩
                    refine HAT.out.mono ?_
                    rintro e w7 ⟨rfl, rfl⟩
                    gi_wp2
                    have ho := (Only.refl (· = Bi) W6).setCell (p := ⟨Bi, 0, none⟩) (.inl rfl) (.int .i64 ((p : Int) + 1))
                    refine ⟨keepsFrom_of_only ho (fun i e => by omega), KeepB.only ho (fun i hi => ⟨by have := ks2 i hi; have := HI'.out.only.size; omega, ?_⟩), ⟨HYES.out _ HX8.out, HI'.out.only.trans ho, ?_⟩⟩
                    · have := ki2 i hi; show ¬ (i = Bi); omega
                    · rw [List.length_append, ← HP.out]; exact HI'.out.ck.set _
                  · have t5 : (xp != 1000000001 - zp) = true := by simpa using h8
                    dsimp only [hFrame]
                    gi_wp2_with fail
                    refine ⟨trivial, ?_⟩
                    refine HAT.out.mono ?_
                    rintro e w7 ⟨rfl, rfl⟩
                    gi_wp2
                    exact ⟨keepsFrom_of_only (T := (· = B + 1)) ((Only.refl (· = B + 1) W6).setCell (p := ⟨B + 1, 0, none⟩) (.inl rfl) _) (fun i e => by omega), HNO.out _ h8⟩
                case done2 =>
                  intro D' zs W6 hD' hzs hI hdd'
                  rw [HUM.out] at hzs
                  subst hzs
                  have fi := hI.ck.cell
                  rw [mir_len, ← HNE.out] at fi
                  have fk := (HCK5.out.only hI.only (by show ¬ (Bk = Bi); omega)).cell
                  rw [← HNE.out] at fk
                  have f4 := HCR5.out.only hI.only (by show ¬ (B + 1 = Bi); omega)
                  have f4c := f4.cell
                  have f4f := f4.free
                  have zi := cell_lt fi
                  have zk5 := cell_lt fk
                  have z4 := cell_lt f4c
                  have tq : (n == n) = true := by simp
                  have hbw := HT4.out.bw
                  have ow6 : Only (fun _ => False) w W6 := (HOW.out.trans HO5.out).trans' hI.only (fun i hi e => by omega)
                  have hd6 : W6.heap[D]? = some (.deferred (some [])) := by
                    have h1 := (Array.getElem?_eq_some_iff.1 HDD.out).1
                    have h2 := HO5.out.block D h1 id
                    have h3 := hI.only.block D (by have := HO5.out.size; omega) (by show ¬ (D = Bi); have := HBI.out; omega)
                    exact h3.trans (h2.trans HDD.out)
                  have HF4' := Lib.hid f4
                  have HOW6 := Lib.hid ow6
                  have HD6 := Lib.hid hd6
                  have HDD' := Lib.hid hdd'
                  have HBW := Lib.hid hbw
                  clear hI f4 ow6 hd6 hdd' hbw
                  go_wp2_with fail
                  have hbw := HBW.out
                  refine leaves_marks [D', D] _ (by have := (Array.getElem?_eq_some_iff.1 HDD.out).1; have := HO5.out.size; simp; omega) (fun E hE => ?_) (fun w' ho' => ?_)
                  · simp only [List.mem_cons, List.mem_nil_iff, or_false] at hE
                    have := HO5.out.size
                    rcases hE with e | e
                    · subst e; rw [Below.heap_setCell _ _ _ _ (by show E ≠ B + 1; omega)]; exact HDD'.out
                    · subst e; rw [Below.heap_setCell _ _ _ _ (by show E ≠ B + 1; omega)]; exact HD6.out
                  · have := HO5.out.size
                    have hc := ((HF4'.out.set (.bool true)).only ho' (fun hD => by simp only [List.mem_cons, List.mem_nil_iff, or_false] at hD; omega)).cell
                    refine ⟨.bool true, ?_, rfl, ?_⟩
                    · simp [results, Try.f4, go_sem, hc]
                    · exact (HOW6.out.setCell (p := ⟨B + 1, 0, none⟩) (.inr (by show w.heap.size ≤ B + 1; omega)) _).trans' ho' (fun i hi hD => by simp only [List.mem_cons, List.mem_nil_iff, or_false] at hD; omega)
      · have t1 : decide (k < len) = false := by simpa using hlt1
        have hL1 := Lib.hid (s_len hT.s1)
        have hL2 := Lib.hid (s_len hT.s2)
        rw [mir_len] at hL2
        have cl := hT.cl.cell
        have cr := hT.cr.cell
        have crf := hT.cr.free
        have zl := cell_lt cl
        have zr := cell_lt cr
        have hln := hT.s1.len
        obtain ⟨N, hN⟩ : ∃ N, N = L.length := ⟨_, rfl⟩
        rw [← hN] at hL1 hL2 hln
        have tn : (N != N) = false := by simp
        have tn' : ((N : Int) != (N : Int)) = false := by simp
        have te : (N == N) = true := by simp
        have te' : ((N : Int) == (N : Int)) = true := by simp
        have HN := Lib.hid hN
        have HT := Lib.hid hT
        clear hT hN
        by_cases h1 : lim < 1
        · have t3 : decide (lim < 1) = true := by simpa using h1
          go_wp2_with fail
          refine hL1.out.mono ?_
          rintro e w4 ⟨rfl, rfl⟩
          go_wp2_with fail
          refine hL2.out.mono ?_
          rintro e w5 ⟨rfl, rfl⟩
          go_wp2_with fail
          refine leaves_marks [] _ List.nodup_nil (fun E hE => by simp at hE) (fun w' ho' => ?_)
          have hc := ((HT.out.cr.set (.bool true)).only ho' (by simp)).cell
          have hbw := HT.out.bw
          refine ⟨.bool true, ?_, rfl, ((HT.out.only.setCell (p := ⟨B + 1, 0, none⟩) (.inr (by show w.heap.size ≤ B + 1; omega)) _).trans' ho' (fun i hi hD => by simp at hD))⟩
          simp [results, Try.f4, go_sem, hc]
        · have t3 : decide (lim < 1) = false := by simpa using h1
          by_cases h2 : 1000000000 < lim
          · have t4 : decide (1000000000 < lim) = true := by simpa using h2
            go_wp2_with fail
            refine hL1.out.mono ?_
            rintro e w4 ⟨rfl, rfl⟩
            go_wp2_with fail
            refine hL2.out.mono ?_
            rintro e w5 ⟨rfl, rfl⟩
            go_wp2_with fail
            refine leaves_marks [] _ List.nodup_nil (fun E hE => by simp at hE) (fun w' ho' => ?_)
            have hc := ((HT.out.cr.set (.bool true)).only ho' (by simp)).cell
            have hbw := HT.out.bw
            refine ⟨.bool true, ?_, rfl, ((HT.out.only.setCell (p := ⟨B + 1, 0, none⟩) (.inr (by show w.heap.size ≤ B + 1; omega)) _).trans' ho' (fun i hi hD => by simp at hD))⟩
            simp [results, Try.f4, go_sem, hc]
          · have t4 : decide (1000000000 < lim) = false := by simpa using h2
            go_wp2_with fail
            refine hL1.out.mono ?_
            rintro e w4 ⟨rfl, rfl⟩
            go_wp2_with fail
            refine hL2.out.mono ?_
            rintro e w5 ⟨rfl, rfl⟩
            clear hL1 hL2
            go_wp2_with fail
            refine (s_upto _ b lim).mono ?_
            rintro e w6 ⟨rfl, rfl⟩
            go_wp2_with fail
            have T4 := HT.out.keep ((((Only.refl (fun _ => False) wr).alloc (.cells #[.int .i64 0] 3)).alloc (.cells #[.pointer (some ⟨b, 0, none⟩)] 25)).alloc (.cells #[.int .i64 lim] 2))
            have ck := ((Cell.new (w := wr) (cs := #[.int .i64 0]) (t := 3) (o := 0) rfl).alloc (.cells #[.pointer (some ⟨b, 0, none⟩)] 25)).alloc (.cells #[.int .i64 lim] 2)
            have cs := (Cell.new (w := wr.alloc (.cells #[.int .i64 0] 3)) (cs := #[.pointer (some ⟨b, 0, none⟩)]) (t := 25) (o := 0) rfl).alloc (.cells #[.int .i64 lim] 2)
            have cm := Cell.new (w := (wr.alloc (.cells #[.int .i64 0] 3)).alloc (.cells #[.pointer (some ⟨b, 0, none⟩)] 25)) (cs := #[.int .i64 lim]) (t := 2) (o := 0) rfl
            obtain ⟨W4, hW4⟩ : ∃ W4, ((wr.alloc (.cells #[.int .i64 0] 3)).alloc (.cells #[.pointer (some ⟨b, 0, none⟩)] 25)).alloc (.cells #[.int .i64 lim] 2) = W4 := ⟨_, rfl⟩
            have sW4 : W4.heap.size = wr.heap.size + 1 + 1 + 1 := by rw [← hW4]; simp only [World.size_alloc]
            simp only [World.size_alloc] at cs cm
            rw [hW4] at T4 ck cs cm ⊢
            clear hW4
            obtain ⟨Bk, hBk⟩ : ∃ Bk, wr.heap.size = Bk := ⟨_, rfl⟩
            have zk1 : ∀ i, SdB b gu hv i → i < Bk := fun i hi => by have := HT.out.s1.blk i hi; omega
            have zk2 : ∀ i, SdB b2 gu2 hv2 i → i < Bk := fun i hi => by have := HT.out.s2.blk i hi; omega
            have zk3 : B + 1 < Bk ∧ Bb < Bk := by have := HT.out.cr.lt; have := HT.out.cb.lt; omega
            simp only [hBk] at ck cs cm sW4 ⊢
            have hl0 : lim ≠ 0 := by omega
            obtain ⟨U, hU⟩ : ∃ U, U = uptoL (-1) lim L := ⟨_, rfl⟩
            have hUt := upto_take (sg := -1) hl0 L
            have hUn : uptoN (-1) lim L = U.length := by rw [hU]; rfl
            rw [← hU, hUn] at hUt
            have hUl : U.length ≤ L.length := by rw [hUt]; exact List.length_take_le' _ _
            have hget : ∀ j, j < U.length → ∃ z, L[j]? = some z ∧ (U.map Prod.fst)[j]? = some z.1 ∧ lim ≤ z.1 := fun j hj => by
              obtain ⟨z, hz⟩ : ∃ z, L[j]? = some z := ⟨_, List.getElem?_eq_getElem (by omega)⟩
              have h1 := upto_in (.inr rfl) hl0 HT.out.s1.srt (by rw [hUn]; exact hj) hz
              refine ⟨z, hz, ?_, by omega⟩
              rw [List.getElem?_map, hUt, List.getElem?_take, if_pos hj, hz]; rfl
            have HGET := Lib.hid hget
            have HUE := Lib.hid hU
            have HUL := Lib.hid hUl
            have HUN := Lib.hid hUn
            have HT4 := Lib.hid T4
            have HCS := Lib.hid cs
            have HCM := Lib.hid cm
            have hap := T4.ap
            clear hget hUt hUn hUl hU T4 cs cm hBk cl cr crf zl zr
            have ks : ∀ i, SdB b gu hv i → i < W4.heap.size := fun i hi => by have := zk1 i hi; omega
            refine (wpIn_wide (n := 14)).1 ?_
            refine wpIn_rangeFunc_ownH rfl (by decide) (gf := 45) (lb := #[.pointer (some ⟨Bk + 1, 0, none⟩), .pointer (some ⟨Bk + 1 + 1, 0, none⟩)]) rfl trivial (enters_of Try.func45 (by kernel_rfl) rfl)
              (upto_stops 13 (by decide) W4 (Bk + 1) (Bk + 1 + 1) b gu 60 (-1) lim hv L HCS.out.cell HCM.out.cell HT4.out.s1)
              KeepB.trans (KeepB.put ks) (Below.refl _ _) (fun _ => rfl)
              (HI W4 Bk (U.map Prod.fst)) (fun _ pre _ => ¬ pre.map Prod.fst <+: U.map Prod.fst)
              (HI.own (Nat.le_refl _) (by omega)) (fun _ _ _ _ _ h _ _ => h) ⟨List.nil_prefix, Only.refl _ _, ck⟩
              (fun x a' _ => ∃ x24 x25 u, a' = { tmps := hFrame B Bb b2 (.pointer (some ⟨Bk, 0, none⟩)) (.int .i64 x.1) x24 x25 u, defers := [] })
              (fun _ _ _ _ _ _ hs _ _ => hs)
              ?assign ?body ?done ?stop
            case assign =>
              intro l pre x W K hi hK
              unfold encU
              gi_wp2
              exact hK _ _ (KeepsFrom.refl _ _) (KeepB.refl _ _) hi (hF.of (x24 := undef) (x25 := undef) (by kernel_rfl))
            case stop => exact fun D c pre W' _ h1 h2 _ => absurd (by rw [← HUE.out] at h1; exact h1.map Prod.fst) h2
            case body =>
              intro l pre x a' W hl hrec hI hA hlen
              obtain ⟨x24, x25, u, rfl⟩ := hA
              obtain ⟨xp, xr⟩ := x
              rw [← HUE.out] at hlen
              obtain ⟨y, hy, hyes, hno⟩ := told_next hI.pf (by rw [List.length_map]; exact hlen)
              obtain ⟨z, hz, hz2, hz3⟩ := HGET.out pre.length hlen
              rw [hy] at hz2
              injection hz2 with hz2
              have nk : ∀ i, SdB b gu hv i → ¬ i = Bk := fun i hi => by have := zk1 i hi; omega
              have f6 := (HT4.out.cb.only hI.only (by show ¬ (Bb = Bk); omega)).cell
              have f3 := (HT4.out.cl.only hI.only (by show ¬ (B = Bk); omega)).cell
              have f4 := HT4.out.cr.only hI.only (by show ¬ (B + 1 = Bk); omega)
              have f4c := f4.cell
              have f4f := f4.free
              have fk := hI.ck.cell
              have fkf := hI.ck.free
              have HAT := Lib.hid (CallsIn.inRound l (callsIn_wide (n := 14 - 1 - 1 - 1).2 (s_at (SideU.only HT4.out.s1 hI.only nk) pre.length z hz)))
              have hpl : pre.length ≤ 128 := by have := HT4.out.s1.len; have := HUL.out; omega
              obtain ⟨p, hp⟩ : ∃ p, p = pre.length := ⟨_, rfl⟩
              rw [← hp] at fk HAT hpl
              have w1' : IntKind.i64.wrap ((p : Int) + 1) = (p : Int) + 1 := by rw [IntKind.wrap_i64]; omega
              obtain ⟨zp, zr⟩ := z
              simp only at HAT hz2 hz3
              subst hz2
              have HI' := Lib.hid hI
              have HYES := Lib.hid hyes
              have HNO := Lib.hid hno
              have HP := Lib.hid hp
              clear hI hyes hno hy hz hp
              by_cases h5 : y = xp
              · subst h5
                have t5 : (y != y) = false := by simp
                have t6 : decide (y < lim) = false := by simp; omega
                dsimp only [hFrame]
                gi_wp2_with fail
                refine ⟨trivial, ?_⟩
                refine HAT.out.mono ?_
                rintro e w7 ⟨rfl, rfl⟩
                gi_wp2
                have ho := (Only.refl (· = Bk) W).setCell (p := ⟨Bk, 0, none⟩) (.inl rfl) (.int .i64 ((p : Int) + 1))
                refine ⟨keepsFrom_of_only ho (fun i e => by omega), KeepB.only ho (fun i hi => ⟨by have := ks i hi; have := HI'.out.only.size; omega, nk i hi⟩), ⟨HYES.out _ rfl, HI'.out.only.trans ho, ?_⟩⟩
                rw [List.length_append, ← HP.out]; exact HI'.out.ck.set _
              · have t5 : (y != xp) = true := by simpa using h5
                dsimp only [hFrame]
                gi_wp2_with fail
                refine ⟨trivial, ?_⟩
                refine HAT.out.mono ?_
                rintro e w7 ⟨rfl, rfl⟩
                gi_wp2
                exact ⟨keepsFrom_of_only (T := (· = B + 1)) ((Only.refl (· = B + 1) W).setCell (p := ⟨B + 1, 0, none⟩) (.inl rfl) _) (fun i e => by omega), HNO.out _ (fun e => h5 e.symm)⟩
            case done =>
              intro D ys W hD hys hI hdd
              rw [← HUE.out] at hys
              subst hys
              have nk : ∀ i, SdB b gu hv i → ¬ i = Bk := fun i hi => by have := zk1 i hi; omega
              have nk2 : ∀ i, SdB b2 gu2 hv2 i → ¬ i = Bk := fun i hi => by have := zk2 i hi; omega
              have f6 := (HT4.out.cb.only hI.only (by show ¬ (Bb = Bk); omega)).cell
              have f3 := (HT4.out.cl.only hI.only (by show ¬ (B = Bk); omega)).cell
              have f4 := HT4.out.cr.only hI.only (by show ¬ (B + 1 = Bk); omega)
              have s1 := SideU.only HT4.out.s1 hI.only nk
              have s2 := SideU.only HT4.out.s2 hI.only nk2
              have fk := hI.ck.cell
              have z6 := cell_lt f6
              have z3 := cell_lt f3
              have zk := cell_lt fk
              have hbw := HT4.out.bw
              have ow : Only (fun _ => False) w W := HT4.out.only.trans' hI.only (fun i hi e => by omega)
              obtain ⟨n, hn⟩ : ∃ n, n = ys.length := ⟨_, rfl⟩
              rw [← hn] at fk
              have hnl : n ≤ 128 := by have := s1.len; have := HUL.out; omega
              have w1' : IntKind.i64.wrap (1000000001 - lim) = 1000000001 - lim := by rw [IntKind.wrap_i64]; omega
              have HS1 := Lib.hid s1
              have HS2 := Lib.hid s2
              have HF4 := Lib.hid f4
              have HOW := Lib.hid ow
              have HDD := Lib.hid hdd
              have HNE := Lib.hid hn
              have HCK := Lib.hid hI.ck
              have HCB := Lib.hid (HT4.out.cb.only hI.only (by show ¬ (Bb = Bk); omega))
              clear hI hdd ow f4 s1 s2 hbw hn
              rcases Nat.lt_or_ge n L.length with h5 | h5
              · obtain ⟨z, hz⟩ : ∃ z, L[n]? = some z := ⟨_, List.getElem?_eq_getElem h5⟩
                have hz3 : z.1 < lim := by
                  have := upto_out (.inr rfl) hl0 HT4.out.s1.srt (x := z) (by rw [HUN.out, ← HNE.out]; exact hz)
                  omega
                have HAT := Lib.hid (s_at HS1.out n z hz)
                obtain ⟨zp, zr⟩ := z
                simp only at HAT hz3
                have t7 : decide (lim ≤ zp) = false := by simp; omega
                clear hz hz3
                go_wp2_with fail
                refine HAT.out.mono ?_
                rintro e w7 ⟨rfl, rfl⟩
                go_wp2_with fail
                refine (s_upto _ b2 (1000000001 - lim)).mono ?_
                rintro e w8 ⟨rfl, rfl⟩
                go_wp2_with fail
                have v1 := ((Cell.new (w := W) (cs := #[.int .i64 0]) (t := 3) (o := 0) rfl).alloc (.cells #[.pointer (some ⟨b2, 0, none⟩)] 25)).alloc (.cells #[.int .i64 (1000000001 - lim)] 2)
                have v2 := (Cell.new (w := W.alloc (.cells #[.int .i64 0] 3)) (cs := #[.pointer (some ⟨b2, 0, none⟩)]) (t := 25) (o := 0) rfl).alloc (.cells #[.int .i64 (1000000001 - lim)] 2)
                have v3 := Cell.new (w := (W.alloc (.cells #[.int .i64 0] 3)).alloc (.cells #[.pointer (some ⟨b2, 0, none⟩)] 25)) (cs := #[.int .i64 (1000000001 - lim)]) (t := 2) (o := 0) rfl
                have o5 := (((Only.refl (fun _ => False) W).alloc (.cells #[.int .i64 0] 3)).alloc (.cells #[.pointer (some ⟨b2, 0, none⟩)] 25)).alloc (.cells #[.int .i64 (1000000001 - lim)] 2)
                obtain ⟨W5, hW5⟩ : ∃ W5, ((W.alloc (.cells #[.int .i64 0] 3)).alloc (.cells #[.pointer (some ⟨b2, 0, none⟩)] 25)).alloc (.cells #[.int .i64 (1000000001 - lim)] 2) = W5 := ⟨_, rfl⟩
                have sW5 : W5.heap.size = W.heap.size + 1 + 1 + 1 := by rw [← hW5]; simp only [World.size_alloc]
                simp only [World.size_alloc] at v2 v3
                rw [hW5] at v1 v2 v3 o5 ⊢
                clear hW5
                have hsz := HCK.out.lt
                have hsB := HF4.out.lt
                obtain ⟨Bi, hBi⟩ : ∃ Bi, W.heap.size = Bi := ⟨_, rfl⟩
                simp only [hBi] at v1 v2 v3 sW5 hsz hsB ⊢
                have s15 := SideU.only HS1.out o5 (fun _ _ => id)
                have s25 := SideU.only HS2.out o5 (fun _ _ => id)
                have ki : ∀ i, SdB b gu hv i → i < Bi := fun i hi => by have := HS1.out.blk i hi; omega
                have ki2 : ∀ i, SdB b2 gu2 hv2 i → i < Bi := fun i hi => by have := HS2.out.blk i hi; omega
                have ks2 : ∀ i, SdB b2 gu2 hv2 i → i < W5.heap.size := fun i hi => by have := ki2 i hi; omega
                have cb5 := HCB.out.only o5 id
                have cr5 := HF4.out.only o5 id
                have ck5 := HCK.out.only o5 id
                have hzB : Bb < Bi := by have := HCB.out.lt; omega
                have hgm : ∀ j, j < ys.length → ∃ z, L[j]? = some z ∧ ((mir ys).map Prod.fst)[j]? = some (1000000001 - z.1) ∧ 1 ≤ z.1 ∧ z.1 ≤ 1000000000 := fun j hj => by
                  obtain ⟨z, hz, hz2, _⟩ := HGET.out j hj
                  refine ⟨z, hz, ?_, HS1.out.pr z (List.mem_of_getElem? hz)⟩
                  rw [List.getElem?_map] at hz2
                  obtain ⟨y, hy, hy2⟩ := Option.map_eq_some_iff.1 hz2
                  rw [List.getElem?_map, mir_get, hy]
                  simp [hy2]
                have um : uptoL 1 (1000000001 - lim) (mir L) = mir ys := by rw [upto_mir (by omega) (by omega), HUE.out]
                have HGM := Lib.hid hgm
                have HS15 := Lib.hid s15
                have HCB5 := Lib.hid cb5
                have HCR5 := Lib.hid cr5
                have HCK5 := Lib.hid ck5
                have HO5 := Lib.hid o5
                have HUM := Lib.hid um
                have HBI := Lib.hid hBi
                clear hgm s15 cb5 cr5 ck5 o5 um hBi
                refine (wpIn_wide (n := 14)).1 ?_
                refine wpIn_rangeFunc_ownH rfl (by decide) (gf := 45) (lb := #[.pointer (some ⟨Bi + 1, 0, none⟩), .pointer (some ⟨Bi + 1 + 1, 0, none⟩)]) rfl trivial (enters_of Try.func45 (by kernel_rfl) rfl)
                  (upto_stops 13 (by decide) W5 (Bi + 1) (Bi + 1 + 1) b2 gu2 60 1 (1000000001 - lim) hv2 (mir L) v2.cell v3.cell s25)
                  KeepB.trans (KeepB.put ks2) (Below.refl _ _) (fun _ => rfl)
                  (HI W5 Bi ((mir ys).map Prod.fst)) (fun _ pre _ => ¬ pre.map Prod.fst <+: (mir ys).map Prod.fst)
                  (HI.own (Nat.le_refl _) (by omega)) (fun _ _ _ _ _ h _ _ => h) ⟨List.nil_prefix, Only.refl _ _, v1⟩
                  (fun x a' _ => ∃ x18 x19 u, a' = { tmps := hFrame B Bb b2 x18 x19 (.pointer (some ⟨Bi, 0, none⟩)) (.int .i64 x.1) u, defers := [] })
                  (fun _ _ _ _ _ _ hs _ _ => hs)
                  ?assign2 ?body2 ?done2 ?stop2
                case assign2 =>
                  intro l pre x W6 K hi hK
                  unfold encU
                  gi_wp2
                  exact hK _ _ (KeepsFrom.refl _ _) (KeepB.refl _ _) hi (hF.of2 (x18 := .pointer (some ⟨Bk, 0, none⟩)) (x19 := undef) (by kernel_rfl))
                case stop2 => exact fun D c pre W' _ h1 h2 _ => absurd (by rw [HUM.out] at h1; exact h1.map Prod.fst) h2
                case body2 =>
                  intro l pre x a' W6 hl hrec hI hA hlen
                  obtain ⟨x18, x19, u, rfl⟩ := hA
                  obtain ⟨xp, xr⟩ := x
                  rw [HUM.out] at hlen
                  obtain ⟨y, hy, hyes, hno⟩ := told_next hI.pf (by rw [List.length_map]; exact hlen)
                  rw [mir_len] at hlen
                  obtain ⟨z, hz, hz2, hz3, hz4⟩ := HGM.out pre.length hlen
                  rw [hy] at hz2
                  injection hz2 with hz2
                  have nk : ∀ i, SdB b gu hv i → ¬ i = Bi := fun i hi => by have := ki i hi; omega
                  have f6 := (HCB5.out.only hI.only (by show ¬ (Bb = Bi); omega)).cell
                  have f4 := HCR5.out.only hI.only (by show ¬ (B + 1 = Bi); omega)
                  have f4c := f4.cell
                  have f4f := f4.free
                  have fk := hI.ck.cell
                  have fkf := hI.ck.free
                  have HAT := Lib.hid (CallsIn.inRound l (callsIn_wide (n := 14 - 1 - 1 - 1).2 (s_at (SideU.only HS15.out hI.only nk) pre.length z hz)))
                  have hpl : pre.length ≤ 128 := by have := HS15.out.len; have := HUL.out; omega
                  obtain ⟨p, hp⟩ : ∃ p, p = pre.length := ⟨_, rfl⟩
                  rw [← hp] at fk HAT hpl
                  have w1' : IntKind.i64.wrap ((p : Int) + 1) = (p : Int) + 1 := by rw [IntKind.wrap_i64]; omega
                  obtain ⟨zp, zr⟩ := z
                  simp only at HAT hz2 hz3 hz4
                  subst hz2
                  have w2' : IntKind.i64.wrap (1000000001 - zp) = 1000000001 - zp := by rw [IntKind.wrap_i64]; omega
                  have HI' := Lib.hid hI
                  have HYES := Lib.hid hyes
                  have HNO := Lib.hid hno
                  have HP := Lib.hid hp
                  clear hI hyes hno hy hz hp
                  by_cases h8 : xp = 1000000001 - zp
                  · have t5 : (xp != 1000000001 - zp) = false := by simpa using h8
                    have HX8 := Lib.hid h8
                    clear h8
                    dsimp only [hFrame]
                    gi_wp2_with fail
                    refine ⟨trivial, ?_⟩
                    refine HAT.out.mono ?_
                    rintro e w7 ⟨rfl, rfl⟩
                    gi_wp2
                    have ho := (Only.refl (· = Bi) W6).setCell (p := ⟨Bi, 0, none⟩) (.inl rfl) (.int .i64 ((p : Int) + 1))
                    refine ⟨keepsFrom_of_only ho (fun i e => by omega), KeepB.only ho (fun i hi => ⟨by have := ks2 i hi; have := HI'.out.only.size; omega, ?_⟩), ⟨HYES.out _ HX8.out, HI'.out.only.trans ho, ?_⟩⟩
                    · have := ki2 i hi; show ¬ (i = Bi); omega
                    · rw [List.length_append, ← HP.out]; exact HI'.out.ck.set _
                  · have t5 : (xp != 1000000001 - zp) = true := by simpa using h8
                    dsimp only [hFrame]
                    gi_wp2_with fail
                    refine ⟨trivial, ?_⟩
                    refine HAT.out.mono ?_
                    rintro e w7 ⟨rfl, rfl⟩
                    gi_wp2
                    exact ⟨keepsFrom_of_only (T := (· = B + 1)) ((Only.refl (· = B + 1) W6).setCell (p := ⟨B + 1, 0, none⟩) (.inl rfl) _) (fun i e => by omega), HNO.out _ h8⟩
                case done2 =>
                  intro D' zs W6 hD' hzs hI hdd'
                  rw [HUM.out] at hzs
                  subst hzs
                  have fi := hI.ck.cell
                  rw [mir_len, ← HNE.out] at fi
                  have fk := (HCK5.out.only hI.only (by show ¬ (Bk = Bi); omega)).cell
                  rw [← HNE.out] at fk
                  have f4 := HCR5.out.only hI.only (by show ¬ (B + 1 = Bi); omega)
                  have f4c := f4.cell
                  have f4f := f4.free
                  have zi := cell_lt fi
                  have zk5 := cell_lt fk
                  have z4 := cell_lt f4c
                  have tq : (n == n) = true := by simp
                  have hbw := HT4.out.bw
                  have ow6 : Only (fun _ => False) w W6 := (HOW.out.trans HO5.out).trans' hI.only (fun i hi e => by omega)
                  have hd6 : W6.heap[D]? = some (.deferred (some [])) := by
                    have h1 := (Array.getElem?_eq_some_iff.1 HDD.out).1
                    have h2 := HO5.out.block D h1 id
                    have h3 := hI.only.block D (by have := HO5.out.size; omega) (by show ¬ (D = Bi); have := HBI.out; omega)
                    exact h3.trans (h2.trans HDD.out)
                  have HF4' := Lib.hid f4
                  have HOW6 := Lib.hid ow6
                  have HD6 := Lib.hid hd6
                  have HDD' := Lib.hid hdd'
                  have HBW := Lib.hid hbw
                  clear hI f4 ow6 hd6 hdd' hbw
                  go_wp2_with fail
                  have hbw := HBW.out
                  refine leaves_marks [D', D] _ (by have := (Array.getElem?_eq_some_iff.1 HDD.out).1; have := HO5.out.size; simp; omega) (fun E hE => ?_) (fun w' ho' => ?_)
                  · simp only [List.mem_cons, List.mem_nil_iff, or_false] at hE
                    have := HO5.out.size
                    rcases hE with e | e
                    · subst e; rw [Below.heap_setCell _ _ _ _ (by show E ≠ B + 1; omega)]; exact HDD'.out
                    · subst e; rw [Below.heap_setCell _ _ _ _ (by show E ≠ B + 1; omega)]; exact HD6.out
                  · have := HO5.out.size
                    have hc := ((HF4'.out.set (.bool true)).only ho' (fun hD => by simp only [List.mem_cons, List.mem_nil_iff, or_false] at hD; omega)).cell
                    refine ⟨.bool true, ?_, rfl, ?_⟩
                    · simp [results, Try.f4, go_sem, hc]
                    · exact (HOW6.out.setCell (p := ⟨B + 1, 0, none⟩) (.inr (by show w.heap.size ≤ B + 1; omega)) _).trans' ho' (fun i hi hD => by simp only [List.mem_cons, List.mem_nil_iff, or_false] at hD; omega)
              · have HNO := Lib.hid (s_at_no HS1.out n (.inr (by omega)))
                go_wp2_with fail
                refine HNO.out.mono ?_
                rintro e w7 ⟨rfl, rfl⟩
                go_wp2_with fail
                refine (s_upto _ b2 (1000000001 - lim)).mono ?_
                rintro e w8 ⟨rfl, rfl⟩
                go_wp2_with fail
                have v1 := ((Cell.new (w := W) (cs := #[.int .i64 0]) (t := 3) (o := 0) rfl).alloc (.cells #[.pointer (some ⟨b2, 0, none⟩)] 25)).alloc (.cells #[.int .i64 (1000000001 - lim)] 2)
                have v2 := (Cell.new (w := W.alloc (.cells #[.int .i64 0] 3)) (cs := #[.pointer (some ⟨b2, 0, none⟩)]) (t := 25) (o := 0) rfl).alloc (.cells #[.int .i64 (1000000001 - lim)] 2)
                have v3 := Cell.new (w := (W.alloc (.cells #[.int .i64 0] 3)).alloc (.cells #[.pointer (some ⟨b2, 0, none⟩)] 25)) (cs := #[.int .i64 (1000000001 - lim)]) (t := 2) (o := 0) rfl
                have o5 := (((Only.refl (fun _ => False) W).alloc (.cells #[.int .i64 0] 3)).alloc (.cells #[.pointer (some ⟨b2, 0, none⟩)] 25)).alloc (.cells #[.int .i64 (1000000001 - lim)] 2)
                obtain ⟨W5, hW5⟩ : ∃ W5, ((W.alloc (.cells #[.int .i64 0] 3)).alloc (.cells #[.pointer (some ⟨b2, 0, none⟩)] 25)).alloc (.cells #[.int .i64 (1000000001 - lim)] 2) = W5 := ⟨_, rfl⟩
                have sW5 : W5.heap.size = W.heap.size + 1 + 1 + 1 := by rw [← hW5]; simp only [World.size_alloc]
                simp only [World.size_alloc] at v2 v3
                rw [hW5] at v1 v2 v3 o5 ⊢
                clear hW5
                have hsz := HCK.out.lt
                have hsB := HF4.out.lt
                obtain ⟨Bi, hBi⟩ : ∃ Bi, W.heap.size = Bi := ⟨_, rfl⟩
                simp only [hBi] at v1 v2 v3 sW5 hsz hsB ⊢
                have s15 := SideU.only HS1.out o5 (fun _ _ => id)
                have s25 := SideU.only HS2.out o5 (fun _ _ => id)
                have ki : ∀ i, SdB b gu hv i → i < Bi := fun i hi => by have := HS1.out.blk i hi; omega
                have ki2 : ∀ i, SdB b2 gu2 hv2 i → i < Bi := fun i hi => by have := HS2.out.blk i hi; omega
                have ks2 : ∀ i, SdB b2 gu2 hv2 i → i < W5.heap.size := fun i hi => by have := ki2 i hi; omega
                have cb5 := HCB.out.only o5 id
                have cr5 := HF4.out.only o5 id
                have ck5 := HCK.out.only o5 id
                have hzB : Bb < Bi := by have := HCB.out.lt; omega
                have hgm : ∀ j, j < ys.length → ∃ z, L[j]? = some z ∧ ((mir ys).map Prod.fst)[j]? = some (1000000001 - z.1) ∧ 1 ≤ z.1 ∧ z.1 ≤ 1000000000 := fun j hj => by
                  obtain ⟨z, hz, hz2, _⟩ := HGET.out j hj
                  refine ⟨z, hz, ?_, HS1.out.pr z (List.mem_of_getElem? hz)⟩
                  rw [List.getElem?_map] at hz2
                  obtain ⟨y, hy, hy2⟩ := Option.map_eq_some_iff.1 hz2
                  rw [List.getElem?_map, mir_get, hy]
                  simp [hy2]
                have um : uptoL 1 (1000000001 - lim) (mir L) = mir ys := by rw [upto_mir (by omega) (by omega), HUE.out]
                have HGM := Lib.hid hgm
                have HS15 := Lib.hid s15
                have HCB5 := Lib.hid cb5
                have HCR5 := Lib.hid cr5
                have HCK5 := Lib.hid ck5
                have HO5 := Lib.hid o5
                have HUM := Lib.hid um
                have HBI := Lib.hid hBi
                clear hgm s15 cb5 cr5 ck5 o5 um hBi
                refine (wpIn_wide (n := 14)).1 ?_
                refine wpIn_rangeFunc_ownH rfl (by decide) (gf := 45) (lb := #[.pointer (some ⟨Bi + 1, 0, none⟩), .pointer (some ⟨Bi + 1 + 1, 0, none⟩)]) rfl trivial (enters_of Try.func45 (by kernel_rfl) rfl)
                  (upto_stops 13 (by decide) W5 (Bi + 1) (Bi + 1 + 1) b2 gu2 60 1 (1000000001 - lim) hv2 (mir L) v2.cell v3.cell s25)
                  KeepB.trans (KeepB.put ks2) (Below.refl _ _) (fun _ => rfl)
                  (HI W5 Bi ((mir ys).map Prod.fst)) (fun _ pre _ => ¬ pre.map Prod.fst <+: (mir ys).map Prod.fst)
                  (HI.own (Nat.le_refl _) (by omega)) (fun _ _ _ _ _ h _ _ => h) ⟨List.nil_prefix, Only.refl _ _, v1⟩
                  (fun x a' _ => ∃ x18 x19 u, a' = { tmps := hFrame B Bb b2 x18 x19 (.pointer (some ⟨Bi, 0, none⟩)) (.int .i64 x.1) u, defers := [] })
                  (fun _ _ _ _ _ _ hs _ _ => hs)
                  ?assign2 ?body2 ?done2 ?stop2
                case assign2 =>
                  intro l pre x W6 K hi hK
                  unfold encU
                  gi_wp2
                  exact hK _ _ (KeepsFrom.refl _ _) (KeepB.refl _ _) hi (hF.of2 (x18 := .pointer (some ⟨Bk, 0, none⟩)) (x19 := undef) (by kernel_rfl))
                case stop2 => exact fun D c pre W' _ h1 h2 _ => absurd (by rw [HUM.out] at h1; exact h1.map Prod.fst) h2
                case body2 =>
                  intro l pre x a' W6 hl hrec hI hA hlen
                  obtain ⟨x18, x19, u, rfl⟩ := hA
                  obtain ⟨xp, xr⟩ := x
                  rw [HUM.out] at hlen
                  obtain ⟨y, hy, hyes, hno⟩ := told_next hI.pf (by rw [List.length_map]; exact hlen)
                  rw [mir_len] at hlen
                  obtain ⟨z, hz, hz2, hz3, hz4⟩ := HGM.out pre.length hlen
                  rw [hy] at hz2
                  injection hz2 with hz2
                  have nk : ∀ i, SdB b gu hv i → ¬ i = Bi := fun i hi => by have := ki i hi; omega
                  have f6 := (HCB5.out.only hI.only (by show ¬ (Bb = Bi); omega)).cell
                  have f4 := HCR5.out.only hI.only (by show ¬ (B + 1 = Bi); omega)
                  have f4c := f4.cell
                  have f4f := f4.free
                  have fk := hI.ck.cell
                  have fkf := hI.ck.free
                  have HAT := Lib.hid (CallsIn.inRound l (callsIn_wide (n := 14 - 1 - 1 - 1).2 (s_at (SideU.only HS15.out hI.only nk) pre.length z hz)))
                  have hpl : pre.length ≤ 128 := by have := HS15.out.len; have := HUL.out; omega
                  obtain ⟨p, hp⟩ : ∃ p, p = pre.length := ⟨_, rfl⟩
                  rw [← hp] at fk HAT hpl
                  have w1' : IntKind.i64.wrap ((p : Int) + 1) = (p : Int) + 1 := by rw [IntKind.wrap_i64]; omega
                  obtain ⟨zp, zr⟩ := z
                  simp only at HAT hz2 hz3 hz4
                  subst hz2
                  have w2' : IntKind.i64.wrap (1000000001 - zp) = 1000000001 - zp := by rw [IntKind.wrap_i64]; omega
                  have HI' := Lib.hid hI
                  have HYES := Lib.hid hyes
                  have HNO := Lib.hid hno
                  have HP := Lib.hid hp
                  clear hI hyes hno hy hz hp
                  by_cases h8 : xp = 1000000001 - zp
                  · have t5 : (xp != 1000000001 - zp) = false := by simpa using h8
                    have HX8 := Lib.hid h8
                    clear h8
                    dsimp only [hFrame]
                    gi_wp2_with fail
                    refine ⟨trivial, ?_⟩
                    refine HAT.out.mono ?_
                    rintro e w7 ⟨rfl, rfl⟩
                    gi_wp2
                    have ho := (Only.refl (· = Bi) W6).setCell (p := ⟨Bi, 0, none⟩) (.inl rfl) (.int .i64 ((p : Int) + 1))
                    refine ⟨keepsFrom_of_only ho (fun i e => by omega), KeepB.only ho (fun i hi => ⟨by have := ks2 i hi; have := HI'.out.only.size; omega, ?_⟩), ⟨HYES.out _ HX8.out, HI'.out.only.trans ho, ?_⟩⟩
                    · have := ki2 i hi; show ¬ (i = Bi); omega
                    · rw [List.length_append, ← HP.out]; exact HI'.out.ck.set _
                  · have t5 : (xp != 1000000001 - zp) = true := by simpa using h8
                    dsimp only [hFrame]
                    gi_wp2_with fail
                    refine ⟨trivial, ?_⟩
                    refine HAT.out.mono ?_
                    rintro e w7 ⟨rfl, rfl⟩
                    gi_wp2
                    exact ⟨keepsFrom_of_only (T := (· = B + 1)) ((Only.refl (· = B + 1) W6).setCell (p := ⟨B + 1, 0, none⟩) (.inl rfl) _) (fun i e => by omega), HNO.out _ h8⟩
                case done2 =>
                  intro D' zs W6 hD' hzs hI hdd'
                  rw [HUM.out] at hzs
                  subst hzs
                  have fi := hI.ck.cell
                  rw [mir_len, ← HNE.out] at fi
                  have fk := (HCK5.out.only hI.only (by show ¬ (Bk = Bi); omega)).cell
                  rw [← HNE.out] at fk
                  have f4 := HCR5.out.only hI.only (by show ¬ (B + 1 = Bi); omega)
                  have f4c := f4.cell
                  have f4f := f4.free
                  have zi := cell_lt fi
                  have zk5 := cell_lt fk
                  have z4 := cell_lt f4c
                  have tq : (n == n) = true := by simp
                  have hbw := HT4.out.bw
                  have ow6 : Only (fun _ => False) w W6 := (HOW.out.trans HO5.out).trans' hI.only (fun i hi e => by omega)
                  have hd6 : W6.heap[D]? = some (.deferred (some [])) := by
                    have h1 := (Array.getElem?_eq_some_iff.1 HDD.out).1
                    have h2 := HO5.out.block D h1 id
                    have h3 := hI.only.block D (by have := HO5.out.size; omega) (by show ¬ (D = Bi); have := HBI.out; omega)
                    exact h3.trans (h2.trans HDD.out)
                  have HF4' := Lib.hid f4
                  have HOW6 := Lib.hid ow6
                  have HD6 := Lib.hid hd6
                  have HDD' := Lib.hid hdd'
                  have HBW := Lib.hid hbw
                  clear hI f4 ow6 hd6 hdd' hbw
                  go_wp2_with fail
                  have hbw := HBW.out
                  refine leaves_marks [D', D] _ (by have := (Array.getElem?_eq_some_iff.1 HDD.out).1; have := HO5.out.size; simp; omega) (fun E hE => ?_) (fun w' ho' => ?_)
                  · simp only [List.mem_cons, List.mem_nil_iff, or_false] at hE
                    have := HO5.out.size
                    rcases hE with e | e
                    · subst e; rw [Below.heap_setCell _ _ _ _ (by show E ≠ B + 1; omega)]; exact HDD'.out
                    · subst e; rw [Below.heap_setCell _ _ _ _ (by show E ≠ B + 1; omega)]; exact HD6.out
                  · have := HO5.out.size
                    have hc := ((HF4'.out.set (.bool true)).only ho' (fun hD => by simp only [List.mem_cons, List.mem_nil_iff, or_false] at hD; omega)).cell
                    refine ⟨.bool true, ?_, rfl, ?_⟩
                    · simp [results, Try.f4, go_sem, hc]
                    · exact (HOW6.out.setCell (p := ⟨B + 1, 0, none⟩) (.inr (by show w.heap.size ≤ B + 1; omega)) _).trans' ho' (fun i hi hD => by simp only [List.mem_cons, List.mem_nil_iff, or_false] at hD; omega)

theorem levelsHalves_walk (w : World) (a : Option Addr) (len cap : Nat) (rows : List (List Value)) (hs : SliceIn w a len cap [.i .i64] rows) (hlen : len * 8 ≤ 140737488351232) (lim : Int) (wf1 : (Lit.int .i64 lim).wf = true) :
    Calls Try.prog 4 #[.slice a len cap, .int .i64 lim] w fun e w' => e = .returned (.bool true) ∧ Below w.heap.size w w' := by
  obtain ⟨xs, B, off, h1, h2⟩ := hs.ints
  exact (halves_yes w a len cap xs B off h1 h2 lim (by omega)).mono fun _ _ ⟨he, ho⟩ => ⟨he, ho.below⟩
end Go.Proofs.Ytkglplngnjgnhaa
