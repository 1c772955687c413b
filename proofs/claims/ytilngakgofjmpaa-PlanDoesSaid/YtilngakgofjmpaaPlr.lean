/- The document's plan. Conditions: a book as its New lays it; the entry may be. -/
import Derived.Test.YtilngakgofjmpaaJD
import Derived.Test.YtilngakgofjmpaaPlg
import Derived.Test.YtilngakgofjmpaaR6h
namespace Go.Proofs.Ytilngakgofjmpaa
set_option linter.unusedVariables false
set_option linter.unusedSimpArgs false
open Go.RowKit Go.Shelf
open Od (OrdR)

/-- What the document's plan has laid: the entry's box, the result's. -/
structure DcB (w : World) (N0 : Nat) (ec ek es ep eq : Int) (A : World) : Prop where
  n : w.heap.size = N0
  only : Only (fun _ => False) w A
  e0 : Cell A N0 0 (.int .i64 ec)
  e1 : Cell A N0 1 (.int .u8 ek)
  e2 : Cell A N0 2 (.int .u8 es)
  e3 : Cell A N0 3 (.int .i64 ep)
  e4 : Cell A N0 4 (.int .i64 eq)
  p : P4 (N0 + 1) A
theorem DcB.keep {w A B : World} {N0 : Nat} {ec ek es ep eq : Int} {S : Nat → Prop} (h : DcB w N0 ec ek es ep eq A) (o : Only S A B) (hS : ∀ i, S i → N0 + 2 ≤ i) : DcB w N0 ec ek es ep eq B := by
  have n0 : ¬ S N0 := fun h => by have := hS _ h; omega
  have n1 : ¬ S (N0 + 1) := fun h => by have := hS _ h; omega
  exact ⟨h.n, h.only.trans' o (fun i h1 h2 => by have := hS i h2; rw [h.n] at h1; omega), h.e0.only o n0, h.e1.only o n0, h.e2.only o n0, h.e3.only o n0, h.e4.only o n0, ⟨h.p.c0.only o n1, h.p.c1.only o n1, h.p.c2.only o n1, h.p.c3.only o n1⟩⟩
/-- Met so far, in the document's plan. -/
structure DcI (base : Nat) (W : World) (P : Nat) (c q : Int) (s : List OrdR) (A : World) : Prop where
  val : ∃ v, Cell A P 0 v ∧ A.ownsRow base 117 4 v (meet c q s).length (hitC (meet c q s))
  c1 : Cell A P 1 (.int .i64 (q - leftM c q s))
  c2 : Cell A P 2 (.int .i64 0)
  c3 : Cell A P 3 (.int .i64 0)
  only : Only (· = P) W A

set_option maxRecDepth 100000 in
set_option maxHeartbeats 16000000 in
theorem r_plan {w : World} {r most room : Nat} {vv : Bool → Value} {l : Bool → List OrdR} (h : R6M w r vv most room l) (g : Good most room l) (e : EnR) (hm : mayE e = true) :
    Calls Try.prog 120 #[.pointer (some ⟨r, 0, none⟩), enV e] w (PlanPost w (planD most room l e)) := by
  have hs2 := mayE_side hm
  obtain ⟨ec, ek, es, ep, eq⟩ := e
  have hmp := mayE_parts hm
  simp only at hmp hs2
  have hq0 : 1 ≤ eq ∧ eq ≤ 1000000000 := hmp.2.2.2.2
  unfold enV planD
  simp only
  have hsm := g.small
  have hlen := g.len
  have hle : (facO l es ep).length ≤ 256 := by
    have h3 := facO_len l es ep
    omega
  have hok : ∀ x ∈ facO l es ep, 1 ≤ x.q ∧ x.q ≤ 1000000000 := fun x hx => by
    obtain ⟨q, hq⟩ := facO_mem hx
    exact (g.ok q x hq).2.2.2.2.2.2
  obtain ⟨sq, hsq⟩ := hs2
  have hfm : ∀ x ∈ facO l es ep, x ∈ l (!sq) := fun x hx => by
    rw [hsq, facO_sdN] at hx
    exact (facL_sub _ _ _).subset hx
  have hfn : ((facO l es ep).map OrdR.i).Nodup := by
    rw [hsq, facO_sdN]
    exact (ids_one g.ids (!sq)).sublist ((facL_sub _ _ _).map _)
  have HOK := Lib.hid hok
  have HLE := Lib.hid hle
  have HFM := Lib.hid hfm
  have HFN := Lib.hid hfn
  have HG := Lib.hid g
  have HFC := Lib.hid fun W (o : Only (fun _ => False) w W) => d_facing (h.only o (fun _ _ => id)) g es ep
  have HRM := Lib.hid fun W (o : Only (fun _ => False) w W) => (r6_room (h.only o (fun _ _ => id)) hlen hsm.1).mono (fun e w' ⟨he, k, hk⟩ => (⟨he, hk ▸ (Only.refl (fun _ => False) W).drewN k⟩ : e = Ending.returned (.int .i64 ((room - ((l false).length + (l true).length) : Nat) : Int)) ∧ Only (fun _ => False) W w'))
  have HCP := Lib.hid fun W (o : Only (fun _ => False) w W) => r6_copy (h.only o (fun _ _ => id)) (fun q => by have := g.le q; omega)
  obtain ⟨F, hF⟩ : ∃ F, F = facO l es ep := ⟨_, rfl⟩
  rw [← hF] at HOK HLE HFM HFN HFC hle ⊢
  obtain ⟨fd, hfd⟩ : ∃ fd, fd = fitD most room l es ep (goneI ec eq F) := ⟨_, rfl⟩
  rw [← hfd]
  have HFD := Lib.hid hfd
  obtain ⟨PL, hPL⟩ : ∃ PL, planR ⟨ec, ek, es, ep, eq⟩ F (fun _ => fd) = PL := ⟨_, rfl⟩
  rw [hPL]
  have HPL := Lib.hid hPL
  obtain ⟨n, hn⟩ : ∃ n, n = F.length := ⟨_, rfl⟩
  rw [← hn] at hle
  have HN := Lib.hid hn
  have HSM := Lib.hid (⟨hsm, hlen⟩ : _ ∧ _)
  have oA : Only (fun _ => False) w ((w.alloc (.cells #[.int .i64 ec, .int .u8 ek, .int .u8 es, .int .i64 ep, .int .i64 eq] 111)).alloc (.cells #[.slice none 0 0, .int .i64 0, .int .i64 0, .int .i64 0] 104)) := ((Only.refl _ w).alloc _).alloc _
  have hE : ∀ (o : Nat) (v : Value), (#[.int .i64 ec, .int .u8 ek, .int .u8 es, .int .i64 ep, .int .i64 eq] : Array Value)[o]? = some v → Cell ((w.alloc (.cells #[.int .i64 ec, .int .u8 ek, .int .u8 es, .int .i64 ep, .int .i64 eq] 111)).alloc (.cells #[.slice none 0 0, .int .i64 0, .int .i64 0, .int .i64 0] 104)) w.heap.size o v := fun o v hv => (Cell.new hv).alloc _
  have h4 := P4.new (w.alloc (.cells #[.int .i64 ec, .int .u8 ek, .int .u8 es, .int .i64 ep, .int .i64 eq] 111))
  rw [World.size_alloc] at h4
  have HB := Lib.hid (show DcB w w.heap.size ec ek es ep eq ((w.alloc (.cells #[.int .i64 ec, .int .u8 ek, .int .u8 es, .int .i64 ep, .int .i64 eq] 111)).alloc (.cells #[.slice none 0 0, .int .i64 0, .int .i64 0, .int .i64 0] 104)) from ⟨rfl, oA, hE 0 _ rfl, hE 1 _ rfl, hE 2 _ rfl, hE 3 _ rfl, hE 4 _ rfl, h4⟩)
  clear h g hF hfd hPL hn hsm hlen oA hE h4 hok hfm hfn hm hmp hsq
  go_enter Try.func120, Try.ntmps120
  go_upto_region 1 with fail
  obtain ⟨W0, hW0⟩ : ∃ W0, (w.alloc (.cells #[.int .i64 ec, .int .u8 ek, .int .u8 es, .int .i64 ep, .int .i64 eq] 111)).alloc (.cells #[.slice none 0 0, .int .i64 0, .int .i64 0, .int .i64 0] 104) = W0 := ⟨_, rfl⟩
  rw [hW0] at HB ⊢
  clear hW0
  obtain ⟨N0, hN0⟩ : ∃ N0, w.heap.size = N0 := ⟨_, rfl⟩
  rw [hN0] at HB
  simp only [hN0]
  clear hN0
  have y2 := HB.out.e2.cell
  have y3 := HB.out.e3.cell
  have zy := cell_lt y2
  go_wp2_with fail
  refine (HFC.out _ HB.out.only).mono ?_
  intro en W1 hp
  obtain ⟨vf, rfl, hvf, o1⟩ := hp
  obtain ⟨fa, fc, rfl, hfc, hfat⟩ := OrdAt.of_own hvf
  rw [← HN.out] at hfc ⊢
  have HB1 := Lib.hid (HB.out.keep o1 (fun _ h => h.elim))
  have HFA := Lib.hid hfat
  have hfatk : ∀ {W : World}, Only (fun _ => False) W1 W → OrdAt W fa F := fun o => HFA.out.only o (fun _ _ => id)
  clear o1 hvf hfat HB y2 y3 zy HFC
  go_upto_region 2 with fail
  obtain ⟨P1, hP1⟩ : ∃ P1, decide (ek = 5 ∧ 0 < n) = P1 := ⟨_, rfl⟩
  have y1 := HB1.out.e1.cell
  have zy := cell_lt y1
  go_cut [33] from 26 to 33 (fun s33 wx => s33 = .bool P1 ∧ wx = W1)
  case first =>
    by_cases hk5 : ek = 5
    · have t5 : (ek == 5) = true := by simpa using hk5
      by_cases hn0 : 0 < n
      · have tn : decide (0 < n) = true := by simpa using hn0
        obtain rfl : P1 = true := by rw [← hP1]; simp [hk5, hn0]
        clear hP1 hk5 hn0
        go_wp2_with fail
        go_meet
        exact ⟨rfl, rfl⟩
      · have tn : decide (0 < n) = false := by simpa using hn0
        obtain rfl : P1 = false := by rw [← hP1]; simp [hn0]
        clear hP1 hk5 hn0
        go_wp2_with fail
        go_meet
        exact ⟨rfl, rfl⟩
    · have t5 : (ek == 5) = false := by simpa using hk5
      obtain rfl : P1 = false := by rw [← hP1]; simp [hk5]
      clear hP1 hk5
      go_wp2_with fail
      go_meet
      exact ⟨rfl, rfl⟩
  case rest =>
  obtain ⟨rfl, hwc⟩ := hcut
  obtain ⟨W2, hW2⟩ : ∃ W2, W2 = wc := ⟨_, rfl⟩
  rw [← hW2] at hwc ⊢
  subst hwc
  clear hW2 y1 zy
  have HP1 := Lib.hid hP1
  clear hP1
  cases P1
  case true =>
    have hk : ek = 5 ∧ 0 < n := by simpa using HP1.out
    obtain rfl : PL = noPlan 80 := by
      rw [← HPL.out]
      unfold planR
      simp only
      rw [if_pos ⟨hk.1, fun e => by have h1 := HN.out; have h2 := hk.2; rw [e] at h1; simp at h1; omega⟩]
    clear hk HPL
    have q0 := HB1.out.p.c0.cell
    have q1 := HB1.out.p.c1.cell
    have q2 := HB1.out.p.c2.cell
    have q3 := HB1.out.p.c3.cell
    have f0 := HB1.out.p.c0.free
    have f1 := HB1.out.p.c1.free
    have f2 := HB1.out.p.c2.free
    have f3 := HB1.out.p.c3.free
    have zq := cell_lt q0
    go_wp2_with fail
    obtain ⟨B', hB', p0, p1, p2, p3, hw', o'⟩ := plan_ret (w := w) (v := .slice none 0 0) (base := N0 + 2) (by have := HB1.out.n; omega) HB1.out.only HB1.out.p (World.ownsRow_nil _ _ 117 4) (by have := HB1.out.n; omega) (by omega) (0) (0) (0)
    have g0 := p0.cell
    have g1 := p1.cell
    have g2 := p2.cell
    have g3 := p3.cell
    rw [← hB']
    refine bodyPost_ret (by simp [results, Try.results120, go_sem, g0, g1, g2, g3]; try rfl) rfl ?_
    exact ⟨.slice none 0 0, rfl, hw', o'⟩
  have HK5 := Lib.hid (show ¬ (ek = 5 ∧ F ≠ []) from fun h => by
    have h1 := HP1.out
    have h2 : 0 < n := by rw [HN.out]; exact List.length_pos_iff.2 h.2
    have h3 : decide (ek = 5 ∧ 0 < n) = true := decide_eq_true ⟨h.1, h2⟩
    rw [h3] at h1
    cases h1)
  go_wp2_with fail
  go_loopw [7, 8] (fun s7 s8 wr => ∃ k : Nat, k ≤ n ∧ s7 = .int .i64 (lotsO ec (F.take k)) ∧ s8 = .int .i64 k ∧ Only (fun _ => False) W2 wr) (fun _ s8 _ => n - (intOf s8).toNat)
  case atStart => exact ⟨0, Nat.zero_le _, rfl, rfl, Only.refl _ _⟩
  case round =>
    obtain ⟨k, hk, rfl, rfl, ho⟩ := hrel
    have HO := Lib.hid ho
    have hlb := lotsO_bd (c := ec) (L := F.take k) (fun x hx => HOK.out x (List.mem_of_mem_take hx))
    rw [List.length_take] at hlb
    obtain ⟨lt, hlte⟩ : ∃ lt, lt = lotsO ec (F.take k) := ⟨_, rfl⟩
    rw [← hlte] at hlb ⊢
    have hlb : 0 ≤ lt ∧ lt ≤ 256000000000 := by omega
    have HLT := Lib.hid hlte
    clear hlte
    by_cases hlt : k < n
    · have t1 : decide (k < n) = true := by simpa using hlt
      have i1 : (0 : Int) ≤ (k : Int) ∧ (k : Int) < (n : Int) := by omega
      have ww1 : IntKind.i64.wrap ((k : Int) + 1) = (k : Int) + 1 := by rw [IntKind.wrap_i64]; omega
      obtain ⟨x, hx⟩ : ∃ x, F[k]? = some x := ⟨_, List.getElem?_eq_getElem (by rw [← HN.out]; exact hlt)⟩
      have htk := take_snoc hx
      have hxq := HOK.out x (List.mem_of_getElem? hx)
      obtain ⟨ga, rfl, hga, c0, c1, c2, c3, c4⟩ := (HFA.out.only ho (fun _ _ => id)) k x hx
      have y0 := (HB1.out.e0.only ho id).cell
      have zy := cell_lt y0
      obtain ⟨xi, xc, xs, xp, xq⟩ := x
      simp only at c0 c1 c2 c3 c4 hxq
      have ww2 : IntKind.i64.wrap (lt + xq) = lt + xq := by rw [IntKind.wrap_i64]; omega
      have HTK := Lib.hid htk
      by_cases hc : xc = ec
      · have u1 : (xc != ec) = false := by simpa using hc
        have HCE := Lib.hid (show lotsO ec (F.take (k + 1)) = lt by rw [htk, lotsO_snoc, if_pos hc]; exact HLT.out.symm)
        clear hx htk ho hc
        go_wp2_with fail
        go_quiet (fail)
        go_wp2_with fail
        go_roundw
        case rel => exact ⟨k + 1, by omega, by rw [HCE.out], by go_num, by (repeat' (first | (with_reducible exact Only.refl _ _) | (with_reducible assumption) | (refine Only.of_none ?_; with_reducible assumption) | (with_reducible refine Only.drewN ?_ _) | (with_reducible refine Only.drew ?_) | (with_reducible refine Only.alloc ?_ _) | (with_reducible refine Only.setCell ?_ ?_ _) | (with_reducible refine Only.then0 ?_ (by with_reducible assumption)) | (with_reducible refine Only.thenN ?_ (by with_reducible assumption) ?_) | (with_reducible refine Only.trans ?_ (by with_reducible assumption)) | (refine .inl ?_; first | rfl | (simp; done) | (simp [Ar.blk]; done)) | (refine .inr ?_; first | omega | (simp; done) | (simp; omega) | exact Only.size (by with_reducible assumption) | (refine Nat.le_trans (Only.size (by with_reducible assumption)) ?_; simp; done)))); all_goals exact HO.out⟩
        case measure => simp [intOf]; omega
      · have u1 : (xc != ec) = true := by simpa using hc
        have HCE := Lib.hid (show lotsO ec (F.take (k + 1)) = lt + xq by rw [htk, lotsO_snoc, if_neg hc, ← HLT.out])
        clear hx htk ho hc
        go_wp2_with fail
        go_quiet (fail)
        go_wp2_with fail
        go_roundw
        case rel => exact ⟨k + 1, by omega, by rw [HCE.out], by go_num, by (repeat' (first | (with_reducible exact Only.refl _ _) | (with_reducible assumption) | (refine Only.of_none ?_; with_reducible assumption) | (with_reducible refine Only.drewN ?_ _) | (with_reducible refine Only.drew ?_) | (with_reducible refine Only.alloc ?_ _) | (with_reducible refine Only.setCell ?_ ?_ _) | (with_reducible refine Only.then0 ?_ (by with_reducible assumption)) | (with_reducible refine Only.thenN ?_ (by with_reducible assumption) ?_) | (with_reducible refine Only.trans ?_ (by with_reducible assumption)) | (refine .inl ?_; first | rfl | (simp; done) | (simp [Ar.blk]; done)) | (refine .inr ?_; first | omega | (simp; done) | (simp; omega) | exact Only.size (by with_reducible assumption) | (refine Nat.le_trans (Only.size (by with_reducible assumption)) ?_; simp; done)))); all_goals exact HO.out⟩
        case measure => simp [intOf]; omega
    · have t1 : decide (k < n) = false := by simpa using hlt
      obtain rfl : n = k := by omega
      rw [List.take_of_length_le (by rw [← HN.out]; exact Nat.le_refl _)] at HLT
      have HB3 := Lib.hid (HB1.out.keep ho (fun _ h => h.elim))
      have HFA3 := Lib.hid (hfatk ho)
      clear ho hlt
      go_upto_region 10 with fail
      obtain ⟨P2, hP2⟩ : ∃ P2, decide (ek = 4 ∧ lt < eq) = P2 := ⟨_, rfl⟩
      have y1 := HB3.out.e1.cell
      have y4 := HB3.out.e4.cell
      have zy := cell_lt y1
      obtain ⟨W3, hW3⟩ : ∃ W3, W3 = wr := ⟨_, rfl⟩
      rw [← hW3] at HB3 HO y1 y4 zy ⊢
      have hfatk3 : ∀ {W : World}, Only (fun _ => False) W3 W → OrdAt W fa F := fun o => hfatk (HO.out.trans o)
      clear HFA3
      clear hW3
      go_cut [64] from 56 to 64 (fun s64 wx => s64 = .bool P2 ∧ wx = W3)
      case first =>
        by_cases hk4 : ek = 4
        · have t4 : (ek == 4) = true := by simpa using hk4
          by_cases hl : lt < eq
          · have tl : decide (lt < eq) = true := by simpa using hl
            obtain rfl : P2 = true := by rw [← hP2]; simp [hk4, hl]
            clear hP2 hk4 hl
            go_wp2_with fail
            go_meet
            exact ⟨rfl, rfl⟩
          · have tl : decide (lt < eq) = false := by simpa using hl
            obtain rfl : P2 = false := by rw [← hP2]; simp [hl]
            clear hP2 hk4 hl
            go_wp2_with fail
            go_meet
            exact ⟨rfl, rfl⟩
        · have t4 : (ek == 4) = false := by simpa using hk4
          obtain rfl : P2 = false := by rw [← hP2]; simp [hk4]
          clear hP2 hk4
          go_wp2_with fail
          go_meet
          exact ⟨rfl, rfl⟩
      case rest =>
      obtain ⟨rfl, hwc⟩ := hcut
      obtain ⟨W3', hW3'⟩ : ∃ W3', W3' = wc := ⟨_, rfl⟩
      rw [← hW3'] at hwc ⊢
      subst hwc
      clear hW3' y1 y4 zy
      have HP2 := Lib.hid hP2
      clear hP2
      cases P2
      case true =>
        have hk : ek = 4 ∧ lt < eq := by simpa using HP2.out
        obtain rfl : PL = noPlan 81 := by
          rw [← HPL.out]
          unfold planR
          simp only
          rw [if_neg HK5.out, if_pos ⟨hk.1, by rw [← HLT.out]; exact hk.2⟩]
        clear hk HPL
        have q0 := HB3.out.p.c0.cell
        have q1 := HB3.out.p.c1.cell
        have q2 := HB3.out.p.c2.cell
        have q3 := HB3.out.p.c3.cell
        have f0 := HB3.out.p.c0.free
        have f1 := HB3.out.p.c1.free
        have f2 := HB3.out.p.c2.free
        have f3 := HB3.out.p.c3.free
        have zq := cell_lt q0
        go_wp2_with fail
        obtain ⟨B', hB', p0, p1, p2, p3, hw', o'⟩ := plan_ret (w := w) (v := .slice none 0 0) (base := N0 + 2) (by have := HB3.out.n; omega) HB3.out.only HB3.out.p (World.ownsRow_nil _ _ 117 4) (by have := HB3.out.n; omega) (by omega) (0) (0) (0)
        have g0 := p0.cell
        have g1 := p1.cell
        have g2 := p2.cell
        have g3 := p3.cell
        rw [← hB']
        refine bodyPost_ret (by simp [results, Try.results120, go_sem, g0, g1, g2, g3]; try rfl) rfl ?_
        exact ⟨.slice none 0 0, rfl, hw', o'⟩
      have HK4 := Lib.hid (show ¬ (ek = 4 ∧ lotsO ec F < eq) from fun h => by
        have h1 := HP2.out
        have h3 : decide (ek = 4 ∧ lt < eq) = true := decide_eq_true ⟨h.1, by rw [HLT.out]; exact h.2⟩
        rw [h3] at h1
        cases h1)
      have y4 := HB3.out.e4.cell
      have zy := cell_lt y4
      go_wp2_with fail
      obtain ⟨PB, hPB⟩ : ∃ PB, W3'.heap.size = PB := ⟨_, rfl⟩
      obtain ⟨W4, hW4⟩ : ∃ W4, W3'.alloc (.cells #[.slice none 0 0, .int .i64 0, .int .i64 0, .int .i64 0] 104) = W4 := ⟨_, rfl⟩
      have o4 : Only (fun _ => False) W3' W4 := by rw [← hW4]; exact (Only.refl _ _).alloc _
      have hp4 : P4 PB W4 := by rw [← hW4, ← hPB]; exact P4.new _
      have hz4 : W4.heap.size = PB + 1 := by rw [← hW4, ← hPB]; simp
      rw [hW4]
      simp only [hPB]
      have hzB : N0 + 2 ≤ PB := by
        have h1 := HB3.out.p.c0.lt
        omega
      have HB4 := Lib.hid (HB3.out.keep o4 (fun _ h => h.elim))
      have hfatk4 : ∀ {W : World}, Only (· = PB) W4 W → OrdAt W fa F := fun o => hfatk3 (o4.trans' o (fun i h1 h2 => by omega))
      have HI4 := Lib.hid (show DcI W4.heap.size W4 PB ec eq (F.take 0) W4 from ⟨⟨_, hp4.c0, World.ownsRow_nil _ _ _ _⟩, by show Cell W4 PB 1 (.int .i64 (eq - eq)); rw [Int.sub_self]; exact hp4.c1, hp4.c2, hp4.c3, Only.refl _ _⟩)
      clear hW4 hPB o4 hp4 y4 zy
      go_loopw [10, 11, 12] (fun s10 s11 s12 wr2 => ∃ k : Nat, k ≤ n ∧ s10 = .int .i64 (leftM ec eq (F.take k)) ∧ s11 = .int .i64 (goneM ec eq (F.take k) : Nat) ∧ s12 = .int .i64 k ∧ DcI W4.heap.size W4 PB ec eq (F.take k) wr2) (fun _ _ s12 _ => n - (intOf s12).toNat)
      case atStart => exact ⟨0, Nat.zero_le _, rfl, rfl, rfl, HI4.out⟩
      case round =>
        obtain ⟨k, hk, rfl, rfl, rfl, hi⟩ := hrel
        obtain ⟨wr2, hwr2⟩ : ∃ wr2, wr2 = wr := ⟨_, rfl⟩
        rw [← hwr2] at hi ⊢
        clear hwr2
        have HI := Lib.hid hi
        have hlb := leftM_bd (c := ec) (L := F.take k) (left := eq) (by omega) (fun x hx => (HOK.out x (List.mem_of_mem_take hx)).1)
        have hml := meet_len ec (F.take k) eq
        have hgl := goneM_le ec (F.take k) eq
        rw [List.length_take] at hml
        obtain ⟨⟨v, k0, hw⟩, k1, k2, k3, ho2⟩ := hi
        obtain ⟨lf, hlfe⟩ : ∃ lf, lf = leftM ec eq (F.take k) := ⟨_, rfl⟩
        obtain ⟨gn, hgne⟩ : ∃ gn, gn = goneM ec eq (F.take k) := ⟨_, rfl⟩
        obtain ⟨ml, hmle⟩ : ∃ ml, ml = (meet ec eq (F.take k)).length := ⟨_, rfl⟩
        rw [← hlfe] at hlb k1 ⊢
        rw [← hgne] at hgl ⊢
        rw [← hmle] at hml hgl hw
        obtain ⟨tr, htr⟩ : ∃ tr, tr = eq - lf := ⟨_, rfl⟩
        rw [← htr] at k1
        have htb : 0 ≤ tr ∧ tr ≤ 1000000000 := by omega
        have HLF := Lib.hid (⟨hlfe, hgne, hmle, htr⟩ : _ ∧ _ ∧ _ ∧ _)
        have HVB := Lib.hid (show ∀ i, v.ownBlock = some i → W4.heap.size ≤ i from fun i hi => (hw.lt i hi).1)
        clear hlfe hgne hmle htr
        have hzP := k0.lt
        have hz2 := ho2.size
        by_cases hgo : k < n ∧ 0 < lf
        · have t1 : decide (k < n) = true := by simpa using hgo.1
          have t2 : decide (0 < lf) = true := by simpa using hgo.2
          have i1 : (0 : Int) ≤ (k : Int) ∧ (k : Int) < (n : Int) := by omega
          have ww1 : IntKind.i64.wrap ((k : Int) + 1) = (k : Int) + 1 := by rw [IntKind.wrap_i64]; omega
          have ww2 : IntKind.i64.wrap ((gn : Int) + 1) = (gn : Int) + 1 := by rw [IntKind.wrap_i64]; omega
          obtain ⟨x, hx⟩ : ∃ x, F[k]? = some x := ⟨_, List.getElem?_eq_getElem (by rw [← HN.out]; exact hgo.1)⟩
          have hxq := HOK.out x (List.mem_of_getElem? hx)
          obtain ⟨ga, rfl, hga, c0, c1, c2, c3, c4⟩ := (hfatk4 ho2) k x hx
          have y0 := (HB4.out.e0.only ho2 (by omega)).cell
          have zy := cell_lt y0
          have qq1 := k1.cell
          have ff1 := k1.free
          obtain ⟨xi, xc, xs, xp, xq⟩ := x
          simp only at c0 c1 c2 c3 c4 hxq
          have HXX := Lib.hid hx
          clear hx
          by_cases hc : xc = ec
          · have u1 : (xc == ec) = true := by simpa using hc
            have u2 : (xq == xq) = true := by simp
            have HCE := Lib.hid hc
            clear hc
            go_upto_region 26 with fail
            obtain ⟨X, hX⟩ : ∃ X, ((wr2.alloc (.cells #[.int .i64 xi, .int .i64 xc, .int .u8 xs, .int .i64 xp, .int .i64 xq] 54)).alloc (.cells #[.int .i64 xi, .int .i64 xp, .int .i64 xq, .bool true] 117)) = X := ⟨_, rfl⟩
            rw [hX]
            have hYs : wr2.heap.size = wr2.heap.size := by simp
            have hN : ∀ (o : Nat) (u : Value), (#[.int .i64 xi, .int .i64 xp, .int .i64 xq, .bool true] : Array Value)[o]? = some u → Cell X (wr2.heap.size + 1) o u := fun o u hu => by
              have := Cell.new (w := wr2.alloc (.cells #[.int .i64 xi, .int .i64 xc, .int .u8 xs, .int .i64 xp, .int .i64 xq] 54)) (t := 117) hu
              rwa [World.size_alloc, hYs, hX] at this
            have oYX : Only (fun _ => False) wr2 X := by rw [← hX]; exact ((Only.refl _ _).alloc _).alloc _
            have h0 := hN 0 _ rfl
            have h1 := hN 1 _ rfl
            have h2 := hN 2 _ rfl
            have h3 := hN 3 _ rfl
            have oX : Only (· = PB) wr2 X := Only.of_none oYX
            have p0 : Cell X PB 0 v := k0.only oYX id
            have p1 : Cell X PB 1 (.int .i64 tr) := k1.only oYX id
            have p2 : Cell X PB 2 (.int .i64 0) := k2.only oYX id
            have p3 : Cell X PB 3 (.int .i64 0) := k3.only oYX id
            clear oYX hN hYs
            have hvb : ∀ i, v.ownBlock = some i → W4.heap.size ≤ i ∧ i < wr2.heap.size := fun i hi => hw.lt i hi
            have hwX := ownsRow_apart hw oX (fun i hi e => by have := hvb i hi; omega)
            have hzX := oX.size
            obtain ⟨v', W5, hr, hw5, o5, hloc⟩ := app_hit hwX (.int .i64 xi) (.int .i64 xp) (.int .i64 xq) (.bool true) (by simp [Value.oneCell']) (by omega) (by omega)
            have hno : ¬ v.ownBlock = some PB := fun e => by have := hvb _ e; omega
            have x0 := p0.only o5 hno
            have x1 := p1.only o5 hno
            have x2 := p2.only o5 hno
            have x3 := p3.only o5 hno
            obtain ⟨sa, sc, hsv, _⟩ := own_slice hwX
            obtain ⟨sa', sc', hsv', _⟩ := own_slice hw5
            have q0 := p0.cell
            have h0 := h0.cell
            have h1 := h1.cell
            have h2 := h2.cell
            have h3 := h3.cell
            have f0 := x0.free
            have g0 := x0.cell
            have z1 := cell_lt q0
            have z2 := cell_lt h0
            have z3 := cell_lt g0
            have HX := Lib.hid (⟨x0, x1, x2, x3, hw5, o5, oX, ho2⟩ : _ ∧ _ ∧ _ ∧ _ ∧ _ ∧ _ ∧ _ ∧ _)
            have HSV' := Lib.hid hsv'
            have HS1 := Lib.hid (show meet ec eq (F.take (k + 1)) = meet ec eq (F.take k) ++ [⟨xi, xp, xq, true⟩] ∧ leftM ec eq (F.take (k + 1)) = lf ∧ goneM ec eq (F.take (k + 1)) = gn + 1 from by
              obtain ⟨m1, m2, m3⟩ := meet_step (c := ec) (q := eq) HXX.out (by rw [← HLF.out.1]; omega)
              rw [← HLF.out.1] at m1 m2 m3
              rw [← HLF.out.2.1] at m3
              rw [m1, m2, m3]
              have e1 : hitOf ec lf ⟨xi, xc, xs, xp, xq⟩ = ⟨xi, xp, xq, true⟩ := by unfold hitOf; rw [if_pos HCE.out]
              have e2 : leftOf ec lf ⟨xi, xc, xs, xp, xq⟩ = lf := by unfold leftOf; rw [if_pos HCE.out]
              rw [e1, e2]
              exact ⟨rfl, rfl, by show gn + (if (xq : Int) = xq then 1 else 0) = gn + 1; rw [if_pos rfl]⟩)
            rw [hsv] at q0 hr g0
            rw [hsv'] at hr
            clear hw hwX p0 p1 p2 p3 x0 x1 x2 x3 hw5 o5 oX hsv hsv' hno hvb ho2 k0 k1 k2 k3 hX
            go_wp2_with (at_builtin; refine wpList_append_run rfl (.tmp 120) (.tmp 122) 102 rfl _ _ _ rfl rfl hr ?_)
            go_roundw
            case rel =>
              refine ⟨k + 1, by omega, ?_, ?_, by go_num, ?_⟩
              · rw [HS1.out.2.1]
              · (rw [HS1.out.2.2]) <;> first | rfl | exact congrArg (Value.int IntKind.i64) (by omega)
              · rw [← HSV'.out]
                obtain ⟨x0, x1, x2, x3, hw5, o5, oX, ho2⟩ := HX.out
                obtain ⟨m1, m2, m3⟩ := HS1.out
                have oS := (Only.refl (· = PB) W5).setCell (p := ⟨PB, 0, none⟩) (.inl rfl) v'
                have hzz := HLF.out.2.2.1
                refine ⟨⟨v', x0.set v', ?_⟩, ?_, x2.far (off_ne (by decide)) _, x3.far (off_ne (by decide)) _, ?_⟩
                · rw [m1, List.length_append, hitC_append, ← hzz]
                  exact ownsRow_apart hw5 oS (fun i hi e => by have := (hw5.lt i hi).1; omega)
                · rw [m2, show eq - (lf) = tr by have := HLF.out.2.2.2; omega]
                  exact x1.far (off_ne (by decide)) _
                · refine ((ho2.trans oX).trans' o5 (fun i h1 h2 => ?_)).trans' oS (fun i h1 h2 => h2)
                  have := HVB.out i h2
                  omega
            case measure => simp [intOf]; omega
          · have u1 : (xc == ec) = false := by simpa using hc
            by_cases hmn : xq ≤ lf
            · have w1 : IntKind.i64.wrap (lf - xq) = lf - xq := by rw [IntKind.wrap_i64]; omega
              have w2 : IntKind.i64.wrap (tr + xq) = tr + xq := by rw [IntKind.wrap_i64]; omega
              have u2 : (xq == xq) = true := by simp
              go_upto_region 26 with fail
              obtain ⟨X, hX⟩ : ∃ X, (((wr2.setCell ⟨PB, 1, none⟩ (.int .i64 (tr + xq))).alloc (.cells #[.int .i64 xi, .int .i64 xc, .int .u8 xs, .int .i64 xp, .int .i64 xq] 54)).alloc (.cells #[.int .i64 xi, .int .i64 xp, .int .i64 xq, .bool false] 117)) = X := ⟨_, rfl⟩
              rw [hX]
              have hYs : (wr2.setCell ⟨PB, 1, none⟩ (.int .i64 (tr + xq))).heap.size = wr2.heap.size := by simp
              have hN : ∀ (o : Nat) (u : Value), (#[.int .i64 xi, .int .i64 xp, .int .i64 xq, .bool false] : Array Value)[o]? = some u → Cell X (wr2.heap.size + 1) o u := fun o u hu => by
                have := Cell.new (w := (wr2.setCell ⟨PB, 1, none⟩ (.int .i64 (tr + xq))).alloc (.cells #[.int .i64 xi, .int .i64 xc, .int .u8 xs, .int .i64 xp, .int .i64 xq] 54)) (t := 117) hu
                rwa [World.size_alloc, hYs, hX] at this
              have oYX : Only (fun _ => False) (wr2.setCell ⟨PB, 1, none⟩ (.int .i64 (tr + xq))) X := by rw [← hX]; exact ((Only.refl _ _).alloc _).alloc _
              have h0 := hN 0 _ rfl
              have h1 := hN 1 _ rfl
              have h2 := hN 2 _ rfl
              have h3 := hN 3 _ rfl
              have oX : Only (· = PB) wr2 X := ((Only.refl (· = PB) wr2).setCell (p := ⟨PB, 1, none⟩) (.inl rfl) _).then0 oYX
              have p0 : Cell X PB 0 v := (k0.far (off_ne (by decide)) _).only oYX id
              have p1 : Cell X PB 1 (.int .i64 (tr + xq)) := (k1.set _).only oYX id
              have p2 : Cell X PB 2 (.int .i64 0) := (k2.far (off_ne (by decide)) _).only oYX id
              have p3 : Cell X PB 3 (.int .i64 0) := (k3.far (off_ne (by decide)) _).only oYX id
              clear oYX hN hYs
              have hvb : ∀ i, v.ownBlock = some i → W4.heap.size ≤ i ∧ i < wr2.heap.size := fun i hi => hw.lt i hi
              have hwX := ownsRow_apart hw oX (fun i hi e => by have := hvb i hi; omega)
              have hzX := oX.size
              obtain ⟨v', W5, hr, hw5, o5, hloc⟩ := app_hit hwX (.int .i64 xi) (.int .i64 xp) (.int .i64 xq) (.bool false) (by simp [Value.oneCell']) (by omega) (by omega)
              have hno : ¬ v.ownBlock = some PB := fun e => by have := hvb _ e; omega
              have x0 := p0.only o5 hno
              have x1 := p1.only o5 hno
              have x2 := p2.only o5 hno
              have x3 := p3.only o5 hno
              obtain ⟨sa, sc, hsv, _⟩ := own_slice hwX
              obtain ⟨sa', sc', hsv', _⟩ := own_slice hw5
              have q0 := p0.cell
              have h0 := h0.cell
              have h1 := h1.cell
              have h2 := h2.cell
              have h3 := h3.cell
              have f0 := x0.free
              have g0 := x0.cell
              have z1 := cell_lt q0
              have z2 := cell_lt h0
              have z3 := cell_lt g0
              have HX := Lib.hid (⟨x0, x1, x2, x3, hw5, o5, oX, ho2⟩ : _ ∧ _ ∧ _ ∧ _ ∧ _ ∧ _ ∧ _ ∧ _)
              have HSV' := Lib.hid hsv'
              have HS1 := Lib.hid (show meet ec eq (F.take (k + 1)) = meet ec eq (F.take k) ++ [⟨xi, xp, xq, false⟩] ∧ leftM ec eq (F.take (k + 1)) = lf - xq ∧ goneM ec eq (F.take (k + 1)) = gn + 1 from by
                obtain ⟨m1, m2, m3⟩ := meet_step (c := ec) (q := eq) HXX.out (by rw [← HLF.out.1]; omega)
                rw [← HLF.out.1] at m1 m2 m3
                rw [← HLF.out.2.1] at m3
                rw [m1, m2, m3]
                have e1 : hitOf ec lf ⟨xi, xc, xs, xp, xq⟩ = ⟨xi, xp, xq, false⟩ := by unfold hitOf; rw [if_neg hc, show min xq lf = xq by omega]
                have e2 : leftOf ec lf ⟨xi, xc, xs, xp, xq⟩ = lf - xq := by unfold leftOf; rw [if_neg hc, show min xq lf = xq by omega]
                rw [e1, e2]
                exact ⟨rfl, rfl, by show gn + (if (xq : Int) = xq then 1 else 0) = gn + 1; rw [if_pos rfl]⟩)
              rw [hsv] at q0 hr g0
              rw [hsv'] at hr
              clear hw hwX p0 p1 p2 p3 x0 x1 x2 x3 hw5 o5 oX hsv hsv' hno hvb ho2 k0 k1 k2 k3 hX
              go_wp2_with (at_builtin; refine wpList_append_run rfl (.tmp 120) (.tmp 122) 102 rfl _ _ _ rfl rfl hr ?_)
              go_roundw
              case rel =>
                refine ⟨k + 1, by omega, ?_, ?_, by go_num, ?_⟩
                · rw [HS1.out.2.1]
                · (rw [HS1.out.2.2]) <;> first | rfl | exact congrArg (Value.int IntKind.i64) (by omega)
                · rw [← HSV'.out]
                  obtain ⟨x0, x1, x2, x3, hw5, o5, oX, ho2⟩ := HX.out
                  obtain ⟨m1, m2, m3⟩ := HS1.out
                  have oS := (Only.refl (· = PB) W5).setCell (p := ⟨PB, 0, none⟩) (.inl rfl) v'
                  have hzz := HLF.out.2.2.1
                  refine ⟨⟨v', x0.set v', ?_⟩, ?_, x2.far (off_ne (by decide)) _, x3.far (off_ne (by decide)) _, ?_⟩
                  · rw [m1, List.length_append, hitC_append, ← hzz]
                    exact ownsRow_apart hw5 oS (fun i hi e => by have := (hw5.lt i hi).1; omega)
                  · rw [m2, show eq - (lf - xq) = tr + xq by have := HLF.out.2.2.2; omega]
                    exact x1.far (off_ne (by decide)) _
                  · refine ((ho2.trans oX).trans' o5 (fun i h1 h2 => ?_)).trans' oS (fun i h1 h2 => h2)
                    have := HVB.out i h2
                    omega
              case measure => simp [intOf]; omega
            · have w1 : IntKind.i64.wrap (lf - lf) = 0 := by rw [IntKind.wrap_i64]; omega
              have w2 : IntKind.i64.wrap (tr + lf) = tr + lf := by rw [IntKind.wrap_i64]; omega
              have u2 : (lf == xq) = false := by simp; omega
              go_upto_region 26 with fail
              obtain ⟨X, hX⟩ : ∃ X, (((wr2.setCell ⟨PB, 1, none⟩ (.int .i64 (tr + lf))).alloc (.cells #[.int .i64 xi, .int .i64 xc, .int .u8 xs, .int .i64 xp, .int .i64 xq] 54)).alloc (.cells #[.int .i64 xi, .int .i64 xp, .int .i64 lf, .bool false] 117)) = X := ⟨_, rfl⟩
              rw [hX]
              have hYs : (wr2.setCell ⟨PB, 1, none⟩ (.int .i64 (tr + lf))).heap.size = wr2.heap.size := by simp
              have hN : ∀ (o : Nat) (u : Value), (#[.int .i64 xi, .int .i64 xp, .int .i64 lf, .bool false] : Array Value)[o]? = some u → Cell X (wr2.heap.size + 1) o u := fun o u hu => by
                have := Cell.new (w := (wr2.setCell ⟨PB, 1, none⟩ (.int .i64 (tr + lf))).alloc (.cells #[.int .i64 xi, .int .i64 xc, .int .u8 xs, .int .i64 xp, .int .i64 xq] 54)) (t := 117) hu
                rwa [World.size_alloc, hYs, hX] at this
              have oYX : Only (fun _ => False) (wr2.setCell ⟨PB, 1, none⟩ (.int .i64 (tr + lf))) X := by rw [← hX]; exact ((Only.refl _ _).alloc _).alloc _
              have h0 := hN 0 _ rfl
              have h1 := hN 1 _ rfl
              have h2 := hN 2 _ rfl
              have h3 := hN 3 _ rfl
              have oX : Only (· = PB) wr2 X := ((Only.refl (· = PB) wr2).setCell (p := ⟨PB, 1, none⟩) (.inl rfl) _).then0 oYX
              have p0 : Cell X PB 0 v := (k0.far (off_ne (by decide)) _).only oYX id
              have p1 : Cell X PB 1 (.int .i64 (tr + lf)) := (k1.set _).only oYX id
              have p2 : Cell X PB 2 (.int .i64 0) := (k2.far (off_ne (by decide)) _).only oYX id
              have p3 : Cell X PB 3 (.int .i64 0) := (k3.far (off_ne (by decide)) _).only oYX id
              clear oYX hN hYs
              have hvb : ∀ i, v.ownBlock = some i → W4.heap.size ≤ i ∧ i < wr2.heap.size := fun i hi => hw.lt i hi
              have hwX := ownsRow_apart hw oX (fun i hi e => by have := hvb i hi; omega)
              have hzX := oX.size
              obtain ⟨v', W5, hr, hw5, o5, hloc⟩ := app_hit hwX (.int .i64 xi) (.int .i64 xp) (.int .i64 lf) (.bool false) (by simp [Value.oneCell']) (by omega) (by omega)
              have hno : ¬ v.ownBlock = some PB := fun e => by have := hvb _ e; omega
              have x0 := p0.only o5 hno
              have x1 := p1.only o5 hno
              have x2 := p2.only o5 hno
              have x3 := p3.only o5 hno
              obtain ⟨sa, sc, hsv, _⟩ := own_slice hwX
              obtain ⟨sa', sc', hsv', _⟩ := own_slice hw5
              have q0 := p0.cell
              have h0 := h0.cell
              have h1 := h1.cell
              have h2 := h2.cell
              have h3 := h3.cell
              have f0 := x0.free
              have g0 := x0.cell
              have z1 := cell_lt q0
              have z2 := cell_lt h0
              have z3 := cell_lt g0
              have HX := Lib.hid (⟨x0, x1, x2, x3, hw5, o5, oX, ho2⟩ : _ ∧ _ ∧ _ ∧ _ ∧ _ ∧ _ ∧ _ ∧ _)
              have HSV' := Lib.hid hsv'
              have HS1 := Lib.hid (show meet ec eq (F.take (k + 1)) = meet ec eq (F.take k) ++ [⟨xi, xp, lf, false⟩] ∧ leftM ec eq (F.take (k + 1)) = 0 ∧ goneM ec eq (F.take (k + 1)) = gn from by
                obtain ⟨m1, m2, m3⟩ := meet_step (c := ec) (q := eq) HXX.out (by rw [← HLF.out.1]; omega)
                rw [← HLF.out.1] at m1 m2 m3
                rw [← HLF.out.2.1] at m3
                rw [m1, m2, m3]
                have e1 : hitOf ec lf ⟨xi, xc, xs, xp, xq⟩ = ⟨xi, xp, lf, false⟩ := by unfold hitOf; rw [if_neg hc, show min xq lf = lf by omega]
                have e2 : leftOf ec lf ⟨xi, xc, xs, xp, xq⟩ = 0 := by unfold leftOf; rw [if_neg hc]; show lf - min xq lf = 0; omega
                rw [e1, e2]
                exact ⟨rfl, rfl, by show gn + (if (lf : Int) = xq then 1 else 0) = gn; rw [if_neg (by omega)]; first | rfl | omega⟩)
              rw [hsv] at q0 hr g0
              rw [hsv'] at hr
              clear hw hwX p0 p1 p2 p3 x0 x1 x2 x3 hw5 o5 oX hsv hsv' hno hvb ho2 k0 k1 k2 k3 hX
              go_wp2_with (at_builtin; refine wpList_append_run rfl (.tmp 120) (.tmp 122) 102 rfl _ _ _ rfl rfl hr ?_)
              go_roundw
              case rel =>
                refine ⟨k + 1, by omega, ?_, ?_, by go_num, ?_⟩
                · rw [HS1.out.2.1]
                · (rw [HS1.out.2.2]) <;> first | rfl | exact congrArg (Value.int IntKind.i64) (by omega)
                · rw [← HSV'.out]
                  obtain ⟨x0, x1, x2, x3, hw5, o5, oX, ho2⟩ := HX.out
                  obtain ⟨m1, m2, m3⟩ := HS1.out
                  have oS := (Only.refl (· = PB) W5).setCell (p := ⟨PB, 0, none⟩) (.inl rfl) v'
                  have hzz := HLF.out.2.2.1
                  refine ⟨⟨v', x0.set v', ?_⟩, ?_, x2.far (off_ne (by decide)) _, x3.far (off_ne (by decide)) _, ?_⟩
                  · rw [m1, List.length_append, hitC_append, ← hzz]
                    exact ownsRow_apart hw5 oS (fun i hi e => by have := (hw5.lt i hi).1; omega)
                  · rw [m2, show eq - (0) = tr + lf by have := HLF.out.2.2.2; omega]
                    exact x1.far (off_ne (by decide)) _
                  · refine ((ho2.trans oX).trans' o5 (fun i h1 h2 => ?_)).trans' oS (fun i h1 h2 => h2)
                    have := HVB.out i h2
                    omega
              case measure => simp [intOf]; omega
        · have hfin : k = n ∨ lf = 0 := by omega
          have hME : meet ec eq F = meet ec eq (F.take k) ∧ leftM ec eq F = lf ∧ goneM ec eq F = gn := by
            rcases hfin with e | e
            · have hFk : F.take k = F := List.take_of_length_le (by rw [← HN.out, e]; exact Nat.le_refl _)
              rw [HLF.out.1, HLF.out.2.1, hFk]
              exact ⟨rfl, rfl, rfl⟩
            · have h0 : leftM ec eq (F.take k) = 0 := by rw [← HLF.out.1]; exact e
              obtain ⟨e1, e2, e3⟩ := met_done h0
              exact ⟨e1, by rw [e2, e], by rw [e3]; exact HLF.out.2.1.symm⟩
          have hcnd : (decide (k < n) = false) ∨ (decide (k < n) = true ∧ decide (0 < lf) = false) := by
            by_cases h1 : k < n
            · exact .inr ⟨by simpa using h1, by simp; omega⟩
            · exact .inl (by simpa using h1)
          have HME := Lib.hid hME
          have HB5 := Lib.hid (HB4.out.keep ho2 (fun i h => by omega))
          have HI5 := Lib.hid (⟨k0, hw, k1, k2, k3, ho2⟩ : _ ∧ _ ∧ _ ∧ _ ∧ _ ∧ _)
          clear HI hfin hME k0 hw k1 k2 k3 ho2
          obtain ⟨P3, hP3⟩ : ∃ P3, decide (ek ≠ 1 ∧ ek ≠ 5) = P3 := ⟨_, rfl⟩
          have y1 := HB5.out.e1.cell
          have zy := cell_lt y1
          go_upto_region 16 with fail
          go_cut [75] from 68 to 75 (fun s75 wx => s75 = .bool false ∧ wx = wr2)
          case first =>
            rcases hcnd with t1 | ⟨t1, t2⟩
            · clear hgo
              go_wp2_with fail
              go_meet
              exact ⟨rfl, rfl⟩
            · clear hgo
              go_wp2_with fail
              go_meet
              exact ⟨rfl, rfl⟩
          case rest =>
          obtain ⟨rfl, hwc⟩ := hcut
          obtain ⟨wr3, hW3⟩ : ∃ wr3, wr3 = wc := ⟨_, rfl⟩
          rw [← hW3] at hwc ⊢
          subst hwc
          clear hW3 hcnd hgo
          go_upto_region 27 with fail
          go_cut [132] from 125 to 132 (fun s132 wx => s132 = .bool P3 ∧ wx = wr3)
          case first =>
            by_cases k1' : ek = 1
            · have t1 : (ek != 1) = false := by simpa using k1'
              obtain rfl : P3 = false := by rw [← hP3]; simp [k1']
              clear hP3 k1'
              go_wp2_with fail
              go_meet
              exact ⟨rfl, rfl⟩
            · have t1 : (ek != 1) = true := by simpa using k1'
              by_cases k5' : ek = 5
              · have t5 : (ek != 5) = false := by simpa using k5'
                obtain rfl : P3 = false := by rw [← hP3]; simp [k5']
                clear hP3 k1' k5'
                go_wp2_with fail
                go_meet
                exact ⟨rfl, rfl⟩
              · have t5 : (ek != 5) = true := by simpa using k5'
                obtain rfl : P3 = true := by rw [← hP3]; simp [k1', k5']
                clear hP3 k1' k5'
                go_wp2_with fail
                go_meet
                exact ⟨rfl, rfl⟩
          case rest =>
          obtain ⟨rfl, hwc⟩ := hcut
          obtain ⟨wr4, hW4'⟩ : ∃ wr4, wr4 = wc := ⟨_, rfl⟩
          rw [← hW4'] at hwc ⊢
          subst hwc
          clear hW4'
          have HP3 := Lib.hid hP3
          clear hP3 y1 zy
          obtain ⟨k0, hw, k1, k2, k3, ho2⟩ := HI5.out
          obtain ⟨sa, sc, hsv, hsc⟩ := own_slice hw
          subst hsv
          have e0 := k0.cell
          have e1 := k1.cell
          have e2 := k2.cell
          have e3 := k3.cell
          have m0 := k0.free
          have m1 := k1.free
          have m2 := k2.free
          have m3 := k3.free
          have ze := cell_lt e0
          have y2 := HB5.out.e2.cell
          have y3 := HB5.out.e3.cell
          have zy := cell_lt y2
          have hnp : ¬ PB = N0 + 1 := by omega
          clear k0 hw k1 k2 k3 ho2 hsc
          cases P3
          case true =>
            have hk : ek ≠ 1 ∧ ek ≠ 5 := by simpa using HP3.out
            obtain rfl : PL = ⟨0, meet ec eq F, tr, 0, lf⟩ := by
              rw [← HPL.out]
              unfold planR
              simp only
              rw [if_neg HK5.out, if_neg HK4.out, if_neg (fun h => by omega), HME.out.2.1, ← HLF.out.2.2.2]
            clear hk HPL
            have q0 := HB5.out.p.c0.cell
            have q1 := HB5.out.p.c1.cell
            have q2 := HB5.out.p.c2.cell
            have q3 := HB5.out.p.c3.cell
            have f0 := HB5.out.p.c0.free
            have f1 := HB5.out.p.c1.free
            have f2 := HB5.out.p.c2.free
            have f3 := HB5.out.p.c3.free
            have zq := cell_lt q0
            go_wp2_with fail
            have oZ := (Only.refl (· = PB) wr4).setCell (p := ⟨PB, 3, none⟩) (.inl rfl) (.int .i64 lf)
            have HBZ := Lib.hid (HB5.out.keep oZ (fun i h => by omega))
            have hwZ := ownsRow_apart HI5.out.2.1 oZ (fun i hi e => by have := (HI5.out.2.1.lt i hi).1; omega)
            obtain ⟨B', hB', p0, p1, p2, p3, hw', o'⟩ := plan_ret (w := w) (v := .slice sa ml sc) (base := W4.heap.size) (by have := HBZ.out.n; omega) HBZ.out.only HBZ.out.p (hwZ) (by have := HBZ.out.n; omega) (by omega) (tr) (0) (lf)
            have g0 := p0.cell
            have g1 := p1.cell
            have g2 := p2.cell
            have g3 := p3.cell
            rw [← hB']
            refine bodyPost_ret (by simp [results, Try.results120, go_sem, g0, g1, g2, g3]; try rfl) rfl ?_
            refine ⟨.slice sa ml sc, rfl, ?_, o'⟩
            show World.ownsRow _ _ _ _ _ (meet ec eq F).length (hitC (meet ec eq F))
            rw [HME.out.1, ← HLF.out.2.2.1]
            exact hw'
          case false =>
            have hk : ek = 1 ∨ ek = 5 := by
              have h1 := HP3.out
              by_cases k1' : ek = 1
              · exact .inl k1'
              · by_cases k5' : ek = 5
                · exact .inr k5'
                · have : decide (ek ≠ 1 ∧ ek ≠ 5) = true := decide_eq_true ⟨k1', k5'⟩
                  rw [this] at h1; cases h1
            have hPL : PL = if 0 < lf ∧ fd ≠ 0 then noPlan fd else ⟨0, meet ec eq F, tr, lf, 0⟩ := by
              rw [← HPL.out]
              unfold planR
              simp only
              rw [if_neg HK5.out, if_neg HK4.out, if_pos hk, HME.out.2.1, ← HLF.out.2.2.2]
            clear hk
            by_cases hz : lf = 0
            · have t1 : (lf == 0) = true := by simpa using hz
              rw [if_neg (fun h => by omega)] at hPL
              subst hPL
              clear hz HPL
              have q0 := HB5.out.p.c0.cell
              have q1 := HB5.out.p.c1.cell
              have q2 := HB5.out.p.c2.cell
              have q3 := HB5.out.p.c3.cell
              have f0 := HB5.out.p.c0.free
              have f1 := HB5.out.p.c1.free
              have f2 := HB5.out.p.c2.free
              have f3 := HB5.out.p.c3.free
              have zq := cell_lt q0
              go_wp2_with fail
              have oZ := (Only.refl (· = PB) wr4).setCell (p := ⟨PB, 2, none⟩) (.inl rfl) (.int .i64 lf)
              have HBZ := Lib.hid (HB5.out.keep oZ (fun i h => by omega))
              have hwZ := ownsRow_apart HI5.out.2.1 oZ (fun i hi e => by have := (HI5.out.2.1.lt i hi).1; omega)
              obtain ⟨B', hB', p0, p1, p2, p3, hw', o'⟩ := plan_ret (w := w) (v := .slice sa ml sc) (base := W4.heap.size) (by have := HBZ.out.n; omega) HBZ.out.only HBZ.out.p (hwZ) (by have := HBZ.out.n; omega) (by omega) (tr) (lf) (0)
              have g0 := p0.cell
              have g1 := p1.cell
              have g2 := p2.cell
              have g3 := p3.cell
              rw [← hB']
              refine bodyPost_ret (by simp [results, Try.results120, go_sem, g0, g1, g2, g3]; try rfl) rfl ?_
              refine ⟨.slice sa ml sc, rfl, ?_, o'⟩
              show World.ownsRow _ _ _ _ _ (meet ec eq F).length (hitC (meet ec eq F))
              rw [HME.out.1, ← HLF.out.2.2.1]
              exact hw'
            · have t1 : (lf == 0) = false := by simpa using hz
              have hzl : 0 < lf := by omega
              have HPX := Lib.hid (show PL = if fd ≠ 0 then noPlan fd else ⟨0, meet ec eq F, tr, lf, 0⟩ by rw [hPL]; simp only [hzl, true_and])
              have hO : Only (fun _ => False) w (wr4.setCell ⟨PB, 2, none⟩ (.int .i64 lf)) := HB5.out.only.setCell (.inr (by show _ ≤ PB; have := HB5.out.n; omega)) _
              have HRX := Lib.hid (HRM.out _ hO)
              have hgi : (goneI ec eq F).length = gn := by rw [goneI_len]; exact HME.out.2.2
              obtain ⟨rm, hrm⟩ : ∃ rm, rm = room - ((l false).length + (l true).length) := ⟨_, rfl⟩
              rw [← hrm] at HRX
              have hfd : fd = if (rm : Int) + (gn : Int) < 1 then 60 else fitS most room (without l (goneI ec eq F)) es ep := by
                rw [HFD.out]
                unfold fitD
                rw [hgi, hrm]
                have h1 := HSM.out
                have e : (room : Int) - (((l false).length + (l true).length : Nat) : Int) = ((room - ((l false).length + (l true).length) : Nat) : Int) := by omega
                rw [e]
              have HFX := Lib.hid hfd
              have hrmb : rm ≤ 256 := by have := HSM.out.1.1; omega
              have ww6 : IntKind.i64.wrap ((rm : Int) + (gn : Int)) = (rm : Int) + (gn : Int) := by rw [IntKind.wrap_i64]; omega
              clear hPL hzl hz hfd hO hrm hgi HPL
              go_wp2_with fail
              refine HRX.out.mono ?_
              rintro en w6 ⟨rfl, o6⟩
              have oZ : Only (· = PB) wr4 w6 := ((Only.refl (· = PB) wr4).setCell (p := ⟨PB, 2, none⟩) (.inl rfl) (.int .i64 lf)).then0 o6
              have HB6 := Lib.hid (HB5.out.keep oZ (fun i h => by omega))
              have HC6 := Lib.hid (show (Cell w6 PB 0 (.slice sa ml sc) ∧ Cell w6 PB 1 (.int .i64 tr) ∧ Cell w6 PB 2 (.int .i64 lf) ∧ Cell w6 PB 3 (.int .i64 0)) ∧ w6.ownsRow W4.heap.size 117 4 (.slice sa ml sc) ml (hitC (meet ec eq (F.take k))) from by
                obtain ⟨k0, hw, k1, k2, k3, ho2⟩ := HI5.out
                exact ⟨⟨(k0.far (off_ne (by decide)) _).only o6 id, (k1.far (off_ne (by decide)) _).only o6 id, (k2.set _).only o6 id, (k3.far (off_ne (by decide)) _).only o6 id⟩, ownsRow_apart hw oZ (fun i hi e => by have := (hw.lt i hi).1; omega)⟩)
              clear oZ o6 e0 e1 e2 e3 m0 m1 m2 m3 ze y2 y3 zy HRX
              by_cases hroom : (rm : Int) + (gn : Int) < 1
              · have t2 : decide ((rm : Int) + (gn : Int) < 1) = true := by simpa using hroom
                obtain rfl : PL = noPlan 60 := by
                  rw [HPX.out, HFX.out, if_pos hroom]
                  rfl
                clear hroom HPX
                have q0 := HB6.out.p.c0.cell
                have q1 := HB6.out.p.c1.cell
                have q2 := HB6.out.p.c2.cell
                have q3 := HB6.out.p.c3.cell
                have f0 := HB6.out.p.c0.free
                have f1 := HB6.out.p.c1.free
                have f2 := HB6.out.p.c2.free
                have f3 := HB6.out.p.c3.free
                have zq := cell_lt q0
                go_wp2_with fail
                obtain ⟨B', hB', p0, p1, p2, p3, hw', o'⟩ := plan_ret (w := w) (v := .slice none 0 0) (base := N0 + 2) (by have := HB6.out.n; omega) HB6.out.only HB6.out.p (World.ownsRow_nil _ _ 117 4) (by have := HB6.out.n; omega) (by omega) (0) (0) (0)
                have g0 := p0.cell
                have g1 := p1.cell
                have g2 := p2.cell
                have g3 := p3.cell
                rw [← hB']
                refine bodyPost_ret (by simp [results, Try.results120, go_sem, g0, g1, g2, g3]; try rfl) rfl ?_
                exact ⟨.slice none 0 0, rfl, hw', o'⟩
              · have t2 : decide ((rm : Int) + (gn : Int) < 1) = false := by simpa using hroom
                have HFX2 := Lib.hid (show fd = fitS most room (without l (goneI ec eq F)) es ep by rw [HFX.out, if_neg hroom])
                clear hroom HFX
                go_wp2_with fail
                refine (HCP.out _ HB6.out.only).mono ?_
                intro en w7 hp
                obtain ⟨r2, vv2, rfl, h2, o7, hlo⟩ := hp
                have hn7 : ∀ i, R6T r2 vv2 i → w6.heap.size ≤ i := hlo
                have HR7 := Lib.hid (show ∃ T, R6 w7 r2 T most room (without l (goneI ec eq (F.take 0))) ∧ (∀ i, T i → w6.heap.size ≤ i) from ⟨_, ⟨vv2, by rw [show goneI ec eq (F.take 0) = [] from rfl, without_nil]; exact h2, rfl⟩, hn7⟩)
                have HO7 := Lib.hid o7
                clear h2 hlo hn7 o7
                go_wp2_with fail
                have HAT := Lib.hid (HitAt.of_slice (l := meet ec eq (F.take k)) (cap := sc) (by rw [← HLF.out.2.2.1]; exact HC6.out.2))
                go_loopw [16] (fun s16 wx => ∃ j : Nat, j ≤ ml ∧ s16 = .int .i64 j ∧ (∃ T, R6 wx r2 T most room (without l (goneI ec eq (F.take j))) ∧ ∀ i, T i → w6.heap.size ≤ i) ∧ Only (fun _ => False) w6 wx) (fun s16 _ => ml - (intOf s16).toNat)
                case atStart => exact ⟨0, Nat.zero_le _, rfl, HR7.out, HO7.out⟩
                case round =>
                  obtain ⟨j, hj, rfl, ⟨T3, ⟨vv3, hM, rfl⟩, hTl⟩, ho⟩ := hrel
                  have HM3 := Lib.hid hM
                  have HO3 := Lib.hid ho
                  have HTL := Lib.hid hTl
                  have e0 := (HC6.out.1.1.only ho id).cell
                  have ze := cell_lt e0
                  have hgw := HG.out.without (goneI ec eq (F.take j))
                  by_cases hlt : j < ml
                  · have t1 : decide (j < ml) = true := by simpa using hlt
                    have i1 : (0 : Int) ≤ (j : Int) ∧ (j : Int) < (ml : Int) := by omega
                    have ww1 : IntKind.i64.wrap ((j : Int) + 1) = (j : Int) + 1 := by rw [IntKind.wrap_i64]; omega
                    obtain ⟨hh, hhx⟩ : ∃ hh, (meet ec eq (F.take k))[j]? = some hh := ⟨_, List.getElem?_eq_getElem (by rw [← HLF.out.2.2.1]; exact hlt)⟩
                    obtain ⟨x, hx, hne, hxe⟩ := met_at (show (meet ec eq F)[j]? = some hh by rw [HME.out.1]; exact hhx)
                    have hhi : hh.i = x.i := by rw [hxe]; unfold hitOf; split <;> rfl
                    have hxm := HFM.out x (List.mem_of_getElem? hx)
                    have hgt := getL_without (ids := goneI ec eq (F.take j)) HG.out.ids hxm (not_gone (c := ec) (q := eq) HFN.out hx)
                    have hst := goneI_step (c := ec) (q := eq) hx hne
                    rw [← hxe] at hst
                    have HGET := Lib.hid (r6_get hM (fun q => by have := hgw.le q; omega) x.i)
                    rw [getV_some hgt] at HGET
                    have HREM := Lib.hid fun W (o : Only (fun _ => False) wr W) => r6_remove (hM.only o (fun _ _ => id)) hgw x.i
                    rw [without_snoc, show remV (without l (goneI ec eq (F.take j))) x.i = .tuple #[ordV x, .int .i64 0] by unfold remV; rw [hgt]] at HREM
                    obtain ⟨gh, off, rfl, hgl, b0, b1, b2, b3⟩ := (HAT.out.only ho (fun _ _ => id)) j hh hhx
                    rw [hhi] at b0
                    obtain ⟨hi', hp', hq', ho'⟩ := hh
                    obtain ⟨xi, xc, xs, xp, xq⟩ := x
                    unfold ordV at HREM
                    simp only at b0 b1 b2 b3 hst HGET HREM
                    have HST := Lib.hid hst
                    clear hx hne hxe hhi hxm hgt hst hhx hM ho hTl hgw
                    go_wp2_with fail
                    refine HGET.out.mono ?_
                    rintro en w8 ⟨rfl, o8⟩
                    have e0' := o8.cell e0 id
                    have b2' := o8.cell b2 id
                    have ze' := cell_lt e0'
                    have zb' := cell_lt b2'
                    have HO8 := Lib.hid o8
                    clear e0 b0 b1 b2 b3 ze o8 HGET hgl
                    by_cases hqq : xq = hq'
                    · have u1 : (xq == hq') = true := by simpa using hqq
                      have HQ := Lib.hid hqq
                      clear hqq
                      go_wp2_with fail
                      go_quiet (fail)
                      go_wp2_with fail
                      refine (HREM.out _ (by have := HO8.out; repeat' (first | (with_reducible exact Only.refl _ _) | (with_reducible assumption) | (refine Only.of_none ?_; with_reducible assumption) | (with_reducible refine Only.drewN ?_ _) | (with_reducible refine Only.drew ?_) | (with_reducible refine Only.alloc ?_ _) | (with_reducible refine Only.setCell ?_ ?_ _) | (with_reducible refine Only.then0 ?_ (by with_reducible assumption)) | (with_reducible refine Only.thenN ?_ (by with_reducible assumption) ?_) | (with_reducible refine Only.trans ?_ (by with_reducible assumption)) | (refine .inl ?_; first | rfl | (simp; done) | (simp [Ar.blk]; done)) | (refine .inr ?_; first | omega | (simp; done) | (simp; omega) | exact Only.size (by with_reducible assumption) | (refine Nat.le_trans (Only.size (by with_reducible assumption)) ?_; simp; done))))).mono ?_
                      intro en w9 hp
                      obtain ⟨T9, rfl, h9, o9, g9⟩ := hp
                      have HX9 := Lib.hid (⟨h9, o9, g9⟩ : _ ∧ _ ∧ _)
                      clear h9 o9 g9
                      go_wp2_with fail
                      go_roundw
                      case rel =>
                        obtain ⟨h9, o9, g9⟩ := HX9.out
                        refine ⟨j + 1, by omega, by go_num, ⟨T9, ?_, fun i hi => ?_⟩, ?_⟩
                        · rw [HST.out, if_pos HQ.out.symm]; exact h9
                        · rcases g9 i hi with h | h
                          · exact HTL.out i h
                          · exact Nat.le_trans (Only.size (show Only (fun _ => False) w6 _ from HO3.out.trans (by have := HO8.out; repeat' (first | (with_reducible exact Only.refl _ _) | (with_reducible assumption) | (refine Only.of_none ?_; with_reducible assumption) | (with_reducible refine Only.drewN ?_ _) | (with_reducible refine Only.drew ?_) | (with_reducible refine Only.alloc ?_ _) | (with_reducible refine Only.setCell ?_ ?_ _) | (with_reducible refine Only.then0 ?_ (by with_reducible assumption)) | (with_reducible refine Only.thenN ?_ (by with_reducible assumption) ?_) | (with_reducible refine Only.trans ?_ (by with_reducible assumption)) | (refine .inl ?_; first | rfl | (simp; done) | (simp [Ar.blk]; done)) | (refine .inr ?_; first | omega | (simp; done) | (simp; omega) | exact Only.size (by with_reducible assumption) | (refine Nat.le_trans (Only.size (by with_reducible assumption)) ?_; simp; done)))))) h
                        · refine Only.trans' ?_ o9 (fun i h1 h2 => by have := HTL.out i h2; omega)
                          exact HO3.out.trans (by have := HO8.out; repeat' (first | (with_reducible exact Only.refl _ _) | (with_reducible assumption) | (refine Only.of_none ?_; with_reducible assumption) | (with_reducible refine Only.drewN ?_ _) | (with_reducible refine Only.drew ?_) | (with_reducible refine Only.alloc ?_ _) | (with_reducible refine Only.setCell ?_ ?_ _) | (with_reducible refine Only.then0 ?_ (by with_reducible assumption)) | (with_reducible refine Only.thenN ?_ (by with_reducible assumption) ?_) | (with_reducible refine Only.trans ?_ (by with_reducible assumption)) | (refine .inl ?_; first | rfl | (simp; done) | (simp [Ar.blk]; done)) | (refine .inr ?_; first | omega | (simp; done) | (simp; omega) | exact Only.size (by with_reducible assumption) | (refine Nat.le_trans (Only.size (by with_reducible assumption)) ?_; simp; done))))
                      case measure => simp [intOf]; omega
                    · have u1 : (xq == hq') = false := by simpa using hqq
                      have HQ := Lib.hid hqq
                      have HW9 := Lib.hid (show Only (fun _ => False) wr w8 from HO8.out)
                      clear hqq
                      go_wp2_with fail
                      go_quiet (fail)
                      go_wp2_with fail
                      go_roundw
                      case rel =>
                        refine ⟨j + 1, by omega, by go_num, ⟨R6T r2 vv3, ?_, HTL.out⟩, ?_⟩
                        · rw [HST.out, if_neg (fun e => HQ.out e.symm), List.append_nil]
                          exact ⟨vv3, HM3.out.only (show Only (fun _ => False) wr _ from by have := HW9.out; repeat' (first | (with_reducible exact Only.refl _ _) | (with_reducible assumption) | (refine Only.of_none ?_; with_reducible assumption) | (with_reducible refine Only.drewN ?_ _) | (with_reducible refine Only.drew ?_) | (with_reducible refine Only.alloc ?_ _) | (with_reducible refine Only.setCell ?_ ?_ _) | (with_reducible refine Only.then0 ?_ (by with_reducible assumption)) | (with_reducible refine Only.thenN ?_ (by with_reducible assumption) ?_) | (with_reducible refine Only.trans ?_ (by with_reducible assumption)) | (refine .inl ?_; first | rfl | (simp; done) | (simp [Ar.blk]; done)) | (refine .inr ?_; first | omega | (simp; done) | (simp; omega) | exact Only.size (by with_reducible assumption) | (refine Nat.le_trans (Only.size (by with_reducible assumption)) ?_; simp; done)))) (fun _ _ => id), rfl⟩
                        · exact HO3.out.trans (show Only (fun _ => False) wr _ from by have := HW9.out; repeat' (first | (with_reducible exact Only.refl _ _) | (with_reducible assumption) | (refine Only.of_none ?_; with_reducible assumption) | (with_reducible refine Only.drewN ?_ _) | (with_reducible refine Only.drew ?_) | (with_reducible refine Only.alloc ?_ _) | (with_reducible refine Only.setCell ?_ ?_ _) | (with_reducible refine Only.then0 ?_ (by with_reducible assumption)) | (with_reducible refine Only.thenN ?_ (by with_reducible assumption) ?_) | (with_reducible refine Only.trans ?_ (by with_reducible assumption)) | (refine .inl ?_; first | rfl | (simp; done) | (simp [Ar.blk]; done)) | (refine .inr ?_; first | omega | (simp; done) | (simp; omega) | exact Only.size (by with_reducible assumption) | (refine Nat.le_trans (Only.size (by with_reducible assumption)) ?_; simp; done))))
                      case measure => simp [intOf]; omega
                  · have t1 : decide (j < ml) = false := by simpa using hlt
                    obtain rfl : ml = j := by omega
                    have hall : goneI ec eq (F.take ml) = goneI ec eq F := by
                      have := goneI_all ec eq F
                      rw [HME.out.1, ← HLF.out.2.2.1] at this
                      exact this
                    have HFI := Lib.hid (d_fits hM hgw es ep)
                    rw [hall, ← HFX2.out] at HFI
                    have HB7 := Lib.hid (HB6.out.keep ho (fun _ h => h.elim))
                    have y2 := HB7.out.e2.cell
                    have y3 := HB7.out.e3.cell
                    have zy := cell_lt y2
                    clear hM ho hTl hgw hall hlt HRM HCP
                    go_wp2_with fail
                    refine HFI.out.mono ?_
                    rintro en w9 ⟨rfl, o9⟩
                    have HB9 := Lib.hid (HB7.out.keep o9 (fun _ h => h.elim))
                    have oW9 := HO3.out.trans o9
                    have e0 := (HC6.out.1.1.only oW9 id).cell
                    have e1 := (HC6.out.1.2.1.only oW9 id).cell
                    have e2 := (HC6.out.1.2.2.1.only oW9 id).cell
                    have e3 := (HC6.out.1.2.2.2.only oW9 id).cell
                    have ze := cell_lt e0
                    have hwZ := Lib.hid (ownsRow_apart HC6.out.2 oW9 (fun _ _ => id))
                    clear oW9 o9 y2 y3 zy HFI HB7
                    by_cases hf0 : fd = 0
                    · have t2 : (fd != 0) = false := by simpa using hf0
                      obtain rfl : PL = ⟨0, meet ec eq F, tr, lf, 0⟩ := by rw [HPX.out, if_neg (fun h => h hf0)]
                      clear hf0 HPX
                      have q0 := HB9.out.p.c0.cell
                      have q1 := HB9.out.p.c1.cell
                      have q2 := HB9.out.p.c2.cell
                      have q3 := HB9.out.p.c3.cell
                      have f0 := HB9.out.p.c0.free
                      have f1 := HB9.out.p.c1.free
                      have f2 := HB9.out.p.c2.free
                      have f3 := HB9.out.p.c3.free
                      have zq := cell_lt q0
                      go_wp2_with fail
                      have hwZ := hwZ.out
                      obtain ⟨B', hB', p0, p1, p2, p3, hw', o'⟩ := plan_ret (w := w) (v := .slice sa ml sc) (base := W4.heap.size) (by have := HB9.out.n; omega) HB9.out.only HB9.out.p (hwZ) (by have := HB9.out.n; omega) (by omega) (tr) (lf) (0)
                      have g0 := p0.cell
                      have g1 := p1.cell
                      have g2 := p2.cell
                      have g3 := p3.cell
                      rw [← hB']
                      refine bodyPost_ret (by simp [results, Try.results120, go_sem, g0, g1, g2, g3]; try rfl) rfl ?_
                      refine ⟨.slice sa ml sc, rfl, ?_, o'⟩
                      show World.ownsRow _ _ _ _ _ (meet ec eq F).length (hitC (meet ec eq F))
                      rw [HME.out.1, ← HLF.out.2.2.1]
                      exact hw'
                    · have t2 : (fd != 0) = true := by simpa using hf0
                      obtain rfl : PL = noPlan fd := by rw [HPX.out, if_pos hf0]
                      clear hf0 HPX
                      have q0 := HB9.out.p.c0.cell
                      have q1 := HB9.out.p.c1.cell
                      have q2 := HB9.out.p.c2.cell
                      have q3 := HB9.out.p.c3.cell
                      have f0 := HB9.out.p.c0.free
                      have f1 := HB9.out.p.c1.free
                      have f2 := HB9.out.p.c2.free
                      have f3 := HB9.out.p.c3.free
                      have zq := cell_lt q0
                      go_wp2_with fail
                      obtain ⟨B', hB', p0, p1, p2, p3, hw', o'⟩ := plan_ret (w := w) (v := .slice none 0 0) (base := N0 + 2) (by have := HB9.out.n; omega) HB9.out.only HB9.out.p (World.ownsRow_nil _ _ 117 4) (by have := HB9.out.n; omega) (by omega) (0) (0) (0)
                      have g0 := p0.cell
                      have g1 := p1.cell
                      have g2 := p2.cell
                      have g3 := p3.cell
                      rw [← hB']
                      refine bodyPost_ret (by simp [results, Try.results120, go_sem, g0, g1, g2, g3]; try rfl) rfl ?_
                      exact ⟨.slice none 0 0, rfl, hw', o'⟩
end Go.Proofs.Ytilngakgofjmpaa
