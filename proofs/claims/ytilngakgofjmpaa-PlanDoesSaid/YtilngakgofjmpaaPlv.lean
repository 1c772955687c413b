/- The document's Of. Conditions: a book as its New lays it. -/
import Derived.Test.YtilngakgofjmpaaPlr
import Derived.Test.YtilngakgofjmpaaPlc
namespace Go.Proofs.Ytilngakgofjmpaa
set_option linter.unusedVariables false
set_option linter.unusedSimpArgs false
open Go.RowKit Go.Shelf
open Od (OrdR)

set_option maxRecDepth 100000 in
set_option maxHeartbeats 4000000 in
theorem r_Of {w : World} {r most room : Nat} {vv : Bool → Value} {l : Bool → List OrdR} (h : R6M w r vv most room l) (g : Good most room l) (e : EnR) :
    Calls Try.prog 56 #[.pointer (some ⟨r, 0, none⟩), enV e] w (PlanPost w (ofD most room l e)) := by
  have HM := Lib.hid fun W => r_may e W
  obtain ⟨PL, hPL⟩ : ∃ PL, ofD most room l e = PL := ⟨_, rfl⟩
  rw [hPL]
  have hPL1 : mayE e = true → planD most room l e = PL := fun hm => by rw [← hPL]; unfold ofD; rw [if_pos hm]
  have hPL0 : ¬ mayE e = true → PL = noPlan 1 := fun hm => by rw [← hPL]; unfold ofD; rw [if_neg hm]
  have HF := Lib.hid fun W (o : Only (fun _ => False) w W) (hm : mayE e = true) => (show Calls Try.prog 120 #[.pointer (some ⟨r, 0, none⟩), enV e] W (PlanPost W PL) from by rw [← hPL1 hm]; exact r_plan (h.only o (fun _ _ => id)) g e hm)
  obtain ⟨ec, ek, es, ep, eq⟩ := e
  unfold enV at HM HF ⊢
  simp only at HM HF ⊢
  obtain ⟨M, hM⟩ : ∃ M, mayE ⟨ec, ek, es, ep, eq⟩ = M := ⟨_, rfl⟩
  rw [hM] at HM
  have HHM := Lib.hid hM
  have HPL := Lib.hid (⟨hPL1, hPL0⟩ : _ ∧ _)
  have oA : Only (fun _ => False) w ((w.alloc (.cells #[.int .i64 ec, .int .u8 ek, .int .u8 es, .int .i64 ep, .int .i64 eq] 111)).alloc (.cells #[.slice none 0 0, .int .i64 0, .int .i64 0, .int .i64 0] 104)) := ((Only.refl _ w).alloc _).alloc _
  have hE : ∀ (o : Nat) (v : Value), (#[.int .i64 ec, .int .u8 ek, .int .u8 es, .int .i64 ep, .int .i64 eq] : Array Value)[o]? = some v → Cell ((w.alloc (.cells #[.int .i64 ec, .int .u8 ek, .int .u8 es, .int .i64 ep, .int .i64 eq] 111)).alloc (.cells #[.slice none 0 0, .int .i64 0, .int .i64 0, .int .i64 0] 104)) w.heap.size o v := fun o v hv => (Cell.new hv).alloc _
  have h4 := P4.new (w.alloc (.cells #[.int .i64 ec, .int .u8 ek, .int .u8 es, .int .i64 ep, .int .i64 eq] 111))
  rw [World.size_alloc] at h4
  have HA := Lib.hid (⟨oA, hE, h4⟩ : _ ∧ _ ∧ _)
  clear h g hPL hPL1 hPL0 hM oA hE h4
  go_enter Try.func56, Try.ntmps56
  go_wp2_with fail
  refine (HM.out _).mono ?_
  rintro en w1 ⟨rfl, o1⟩
  obtain ⟨oA, hE, h4⟩ := HA.out
  have O1 := oA.trans o1
  have h4 := h4.keep o1
  have y0 := ((hE 0 _ rfl).only o1 id).cell
  have y1 := ((hE 1 _ rfl).only o1 id).cell
  have y2 := ((hE 2 _ rfl).only o1 id).cell
  have y3 := ((hE 3 _ rfl).only o1 id).cell
  have y4 := ((hE 4 _ rfl).only o1 id).cell
  have zy := cell_lt y0
  have HB := Lib.hid (⟨O1, h4⟩ : _ ∧ _)
  cases M with
  | false =>
    have hpl := HPL.out.2 (by rw [HHM.out]; decide)
    subst hpl
    have q0 := h4.c0.cell
    have q1 := h4.c1.cell
    have q2 := h4.c2.cell
    have q3 := h4.c3.cell
    have f0 := h4.c0.free
    have f1 := h4.c1.free
    have f2 := h4.c2.free
    have f3 := h4.c3.free
    have z0 := cell_lt q0
    clear HPL HF O1 h4 oA hE o1 HA HM
    go_wp2_with fail
    obtain ⟨O1, h4⟩ := HB.out
    obtain ⟨B', hB', p0, p1, p2, p3, hw, o⟩ := plan_ret (v := .slice none 0 0) (base := w.heap.size + 2) (n := 0) (xs := []) (by omega) O1 h4 (World.ownsRow_nil _ _ _ _) (by omega) (by omega) 0 0 0
    have g0 := p0.cell
    have g1 := p1.cell
    have g2 := p2.cell
    have g3 := p3.cell
    rw [← hB']
    refine bodyPost_ret (by simp [results, Try.results56, go_sem, g0, g1, g2, g3]; try rfl) rfl ?_
    exact ⟨.slice none 0 0, rfl, hw, o⟩
  | true =>
    have HC := Lib.hid (HF.out _ O1 HHM.out)
    clear HPL HF O1 h4 oA hE o1 HA HM
    go_wp2_with fail
    refine HC.out.mono ?_
    intro en w2 hp
    obtain ⟨v, rfl, hw, o2⟩ := hp
    unfold planV
    obtain ⟨sa, sc, rfl, _⟩ := own_slice hw
    obtain ⟨er, hs, tr, re, gn⟩ := PL
    simp only at hw ⊢
    obtain ⟨O1, h4⟩ := HB.out
    have h4 := h4.keep o2
    have zp := HB.out.2.c0.lt
    have HD := Lib.hid (plan_ret (by omega) (O1.trans o2) h4 hw (by omega) (by omega) tr re gn)
    have q0 := h4.c0.cell
    have q1 := h4.c1.cell
    have q2 := h4.c2.cell
    have q3 := h4.c3.cell
    have f0 := h4.c0.free
    have f1 := h4.c1.free
    have f2 := h4.c2.free
    have f3 := h4.c3.free
    have z0 := cell_lt q0
    obtain ⟨n, hn⟩ : ∃ n, n = hs.length := ⟨_, rfl⟩
    rw [← hn] at HD hw ⊢
    have HN := Lib.hid hn
    clear O1 h4 o2 hw y0 y1 y2 y3 y4 zy hn
    go_wp2_with fail
    obtain ⟨B', hB', p0, p1, p2, p3, hw, o⟩ := HD.out
    have g0 := p0.cell
    have g1 := p1.cell
    have g2 := p2.cell
    have g3 := p3.cell
    rw [← hB']
    refine bodyPost_ret (by simp [results, Try.results56, go_sem, g0, g1, g2, g3]; try rfl) rfl ?_
    refine ⟨.slice sa n sc, rfl, ?_, o⟩
    show World.ownsRow _ _ _ _ _ hs.length _
    rw [← HN.out]
    exact hw
end Go.Proofs.Ytilngakgofjmpaa
