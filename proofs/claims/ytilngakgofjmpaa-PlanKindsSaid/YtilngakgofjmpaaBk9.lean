/- The book: New. No condition. -/
import Derived.Test.YtilngakgofjmpaaBk8
namespace Go.Proofs.Ytilngakgofjmpaa
set_option linter.unusedVariables false
set_option linter.unusedSimpArgs false
open Go.RowKit Go.Shelf
open Od (OrdR Lay FreeN Blk4)


/-- What New hands back. -/
def BkNew (w : World) (most room : Nat) (e : Ending) (w' : World) : Prop :=
  ∃ b T, e = .returned (.tuple #[.pointer (some ⟨b, 0, none⟩), .int .i64 0]) ∧ Bk w' b T most room (fun _ => []) ∧ Only (fun _ => False) w w' ∧ ∀ i, T i → w.heap.size ≤ i

set_option maxRecDepth 100000 in
set_option maxHeartbeats 4000000 in
theorem k_new (w : World) (room most : Nat) (hr : room ≤ 256) (hm : most ≤ 128) :
    Calls Try.prog 29 #[.int .i64 room, .int .i64 most] w (BkNew w most room) := by
  have t1 : decide ((room : Int) < 0) = false := by simp
  have t2 : decide (256 < room) = false := by simp; omega
  have t2' : decide ((256 : Int) < (room : Int)) = false := by simp; omega
  have H1 := fun W => Lib.hid (Go.Proofs.Ytilngakgofjmpaa.s_new_buy W most hm)
  have H2 := fun W => Lib.hid (Go.Proofs.Ytilngakgofjmpaa.s_new_sell W most hm)
  have H3 := fun W => Lib.hid (Od.h_new W (2 * most + 1) room (by omega) (by omega) (by omega))
  have e1 : ((2 * most + 1 : Nat) : Int) = 2 * (most : Int) + 1 := by omega
  simp only [e1] at H3
  have w1 : IntKind.i64.wrap (2 * (most : Int)) = 2 * (most : Int) := by rw [IntKind.wrap_i64]; omega
  have w2 : IntKind.i64.wrap (2 * (most : Int) + 1) = 2 * (most : Int) + 1 := by rw [IntKind.wrap_i64]; omega
  have hmm := @run_makeMap Try.prog
  clear e1
  go_enter Try.func29, Try.ntmps29
  go_wp2_with fail
  refine (H1 _).out.mono ?_
  intro e w1 hp
  obtain ⟨b1, u1, rfl, s1, o1, ge1, gu1⟩ := hp
  have K1 := Lib.hid (⟨s1, o1, ge1, gu1⟩ : _ ∧ _ ∧ _ ∧ _)
  clear s1 o1 ge1 gu1 H1
  go_wp2_with fail
  refine (H2 _).out.mono ?_
  intro e w2 hp
  obtain ⟨b2, u2, rfl, s2, o2, ge2, gu2⟩ := hp
  have K2 := Lib.hid (⟨s2, o2, ge2, gu2⟩ : _ ∧ _ ∧ _ ∧ _)
  clear s2 o2 ge2 gu2 H2
  go_wp2_with fail
  refine (H3 _).out.mono ?_
  intro e w3 hp
  obtain ⟨ba, gl, gr, gf, rfl, la, o3, ga, gb, gc, gd⟩ := hp
  have K3 := Lib.hid (⟨la, o3, ga, gb, gc, gd⟩ : _ ∧ _ ∧ _ ∧ _ ∧ _ ∧ _)
  clear la o3 ga gb gc gd H3
  go_wp2_with fail
  go_returns
  obtain ⟨s1, o1, ge1, gu1⟩ := K1.out
  obtain ⟨s2, o2, ge2, gu2⟩ := K2.out
  obtain ⟨la, o3, ga, gb, gc, gd⟩ := K3.out
  have oA := (Only.refl (fun _ => False) w3).alloc (.map #[] 0)
  have oB := oA.alloc (.cells #[.pointer (some ⟨b1, 0, none⟩), .int .i64 0, .pointer (some ⟨b2, 0, none⟩), .int .i64 (most : Int), .pointer (some ⟨ba, 0, none⟩), .map (some w3.heap.size), .int .i64 (room : Int)] 154)
  have z1 := s1.blk
  have z2 := s2.blk
  have z3 := la.blk
  have n1 := o1.size
  have n2 := o2.size
  have n3 := o3.size
  have l1 : ∀ i, SdB b1 u1 (.slice none 0 0) i → w.heap.size ≤ i ∧ i < w1.heap.size := fun i hi => ⟨(by rcases hi with rfl | rfl | e; exact ge1; exact gu1; cases e), z1 i hi⟩
  have l2 : ∀ i, SdB b2 u2 (.slice none 0 0) i → w1.heap.size ≤ i ∧ i < w2.heap.size := fun i hi => ⟨(by rcases hi with rfl | rfl | e; exact ge2; exact gu2; cases e), z2 i hi⟩
  have l3 : ∀ i, Blk4 ba gl gr gf i → w2.heap.size ≤ i ∧ i < w3.heap.size := fun i hi => ⟨(by rcases hi with rfl | rfl | rfl | rfl <;> assumption), z3 i hi⟩
  have hcell : ∀ o v, (#[.pointer (some ⟨b1, 0, none⟩), .int .i64 0, .pointer (some ⟨b2, 0, none⟩), .int .i64 (most : Int), .pointer (some ⟨ba, 0, none⟩), .map (some w3.heap.size), .int .i64 (room : Int)] : Array Value)[o]? = some v → Cell ((w3.alloc (.map #[] 0)).alloc (.cells #[.pointer (some ⟨b1, 0, none⟩), .int .i64 0, .pointer (some ⟨b2, 0, none⟩), .int .i64 (most : Int), .pointer (some ⟨ba, 0, none⟩), .map (some w3.heap.size), .int .i64 (room : Int)] 154)) (w3.heap.size + 1) o v := fun o v hv => by
    have := Cell.new (w := w3.alloc (.map #[] 0)) (t := 154) hv
    rwa [World.size_alloc] at this
  have hM : BookM ((w3.alloc (.map #[] 0)).alloc (.cells #[.pointer (some ⟨b1, 0, none⟩), .int .i64 0, .pointer (some ⟨b2, 0, none⟩), .int .i64 (most : Int), .pointer (some ⟨ba, 0, none⟩), .map (some w3.heap.size), .int .i64 (room : Int)] 154)) (w3.heap.size + 1) (fun q => if q then b2 else b1) (fun q => if q then u2 else u1) (fun _ => .slice none 0 0) ba gl gr gf w3.heap.size most room (fun _ => []) (fun _ => []) (fun _ => ⟨0, 0, 0, 0, 0⟩) (fun _ => none) (fun _ => []) := by
    refine { c0 := hcell 0 _ rfl, c1 := hcell 1 _ rfl, c2 := hcell 2 _ rfl, c3 := hcell 3 _ rfl, c4 := hcell 4 _ rfl, c5 := hcell 5 _ rfl, c6 := hcell 6 _ rfl, sd := fun q => ?_, lay := la.keep oB (fun _ _ => id), im := ?_, rep := BkRep.init _ _ _, db := ⟨fun q hq => ?_, fun h => by have := l3 _ h; omega, by omega⟩, ds := fun i h1 h2 => ?_, dq := fun q i hi => ?_, da := fun i hi => by have := l3 _ hi; omega, small := hr }
    · cases q
      · exact SideU.only s1 ((o2.trans o3).trans oB) (fun _ _ => id)
      · exact SideU.only s2 (o3.trans oB) (fun _ _ => id)
    · exact (IMap.new w3).only ((Only.refl (fun _ => False) _).alloc _) id
    · cases q
      · have := l1 _ hq; omega
      · have := l2 _ hq; omega
    · have := l1 _ h1; have := l2 _ h2; omega
    · cases q
      · have := l1 _ hi
        exact ⟨fun h => by have := l3 _ h; omega, by omega⟩
      · have := l2 _ hi
        exact ⟨fun h => by have := l3 _ h; omega, by omega⟩
  refine ⟨_, _, rfl, hM.bk, ((o1.trans o2).trans o3).trans oB, fun i hi => ?_⟩
  rcases hi with rfl | ⟨q, hi⟩ | hi | rfl
  · omega
  · cases q
    · exact (l1 i hi).1
    · have := (l2 i hi).1; omega
  · have := (l3 i hi).1; omega
  · omega
end Go.Proofs.Ytilngakgofjmpaa
