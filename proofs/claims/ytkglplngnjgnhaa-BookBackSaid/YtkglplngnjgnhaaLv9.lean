/- Levels: the chapter's example (works), walked; Add and Drop, whatever they answer. Conditions: a side as its New lays it. -/
import Derived.Test.YtkglplngnjgnhaaLv8
namespace Go.Proofs.Ytkglplngnjgnhaa
set_option linter.unusedVariables false
set_option linter.unusedSimpArgs false
open Go.RowKit

/-- A side lies there, with some prices. -/
def AnyPost (b gu most : Nat) (sg : Int) (hv : Value) (w : World) (P : Ending → Prop) (e : Ending) (w' : World) : Prop :=
  ∃ hv' L', P e ∧ SideAt w' b gu most sg hv' L' ∧ Only (SdB b gu hv) w w' ∧ (hv'.ownBlock = hv.ownBlock ∨ ∃ g, hv'.ownBlock = some g ∧ w.heap.size ≤ g)

section
variable {w : World} {b gu most : Nat} {sg : Int} {hv : Value} {L : List (Int × Nat)}
theorem any_stay (h : SideAt w b gu most sg hv L) {P : Ending → Prop} {e : Ending} {w' : World} (he : P e) (o : Only (fun _ => False) w w') : AnyPost b gu most sg hv w P e w' :=
  ⟨hv, L, he, h.only o (fun _ _ => id), Only.of_none o, .inl rfl⟩
theorem any_add (h : SideAt w b gu most sg hv L) (p : Int) :
    Calls Try.prog 11 #[.pointer (some ⟨b, 0, none⟩), .int .i64 p] w (AnyPost b gu most sg hv w fun e => ∃ x y : Int, e = .returned (.tuple #[.int .i64 x, .int .i64 y])) := by
  by_cases h1 : p < 1 ∨ 1000000000 < p
  · exact (s_add_bad p h1).mono fun e w' ⟨he, hw⟩ => any_stay h ⟨_, _, he⟩ (hw ▸ Only.refl _ _)
  · cases hp : has p L with
    | true => exact (s_add_twice h p (by omega) (by omega) hp).mono fun e w' ⟨he, hw⟩ => any_stay h ⟨_, _, he⟩ hw
    | false =>
      rcases Nat.lt_or_ge L.length most with h2 | h2
      · obtain ⟨r, a1, a2, a3⟩ := free_row h2
        refine (s_add h p (by omega) (by omega) hp r a1 a2 a3 h2).mono fun e w' hq => ?_
        obtain ⟨hv', he, q1, q2, q3⟩ := hq
        exact ⟨hv', _, ⟨_, _, he⟩, q1, q2, q3⟩
      · exact (s_add_full h p (by omega) (by omega) hp h2).mono fun e w' ⟨he, hw⟩ => any_stay h ⟨_, _, he⟩ hw
theorem any_drop (h : SideAt w b gu most sg hv L) (p : Int) :
    Calls Try.prog 12 #[.pointer (some ⟨b, 0, none⟩), .int .i64 p] w (AnyPost b gu most sg hv w fun e => ∃ x : Int, e = .returned (.int .i64 x)) := by
  cases hp : has p L with
  | true =>
    obtain ⟨⟨q, r⟩, hx, hq⟩ := (has_at h.hsg h.srt).1 hp
    simp only at hq
    subst hq
    refine (s_drop h q _ rfl r hx).mono fun e w' hq => ?_
    obtain ⟨hv', he, q1, q2, q3⟩ := hq
    exact ⟨hv', _, ⟨_, he⟩, q1, q2, q3⟩
  | false => exact (s_drop_no h p hp).mono fun e w' ⟨he, hw⟩ => any_stay h ⟨_, he⟩ hw
end

/-- Where a side's blocks are all new. -/
theorem SdB.low {w0 w : World} {b gu : Nat} {hv hv' : Value} (h : ∀ i, SdB b gu hv i → w0.heap.size ≤ i) (hw : w0.heap.size ≤ w.heap.size) (hl : hv'.ownBlock = hv.ownBlock ∨ ∃ g, hv'.ownBlock = some g ∧ w.heap.size ≤ g) : ∀ i, SdB b gu hv' i → w0.heap.size ≤ i := fun i hi => by
  rcases hi with e | e | e
  · exact h i (.inl e)
  · exact h i (.inr (.inl e))
  · rcases hl with e' | ⟨g, e', hg⟩
    · exact h i (.inr (.inr (by rw [← e']; exact e)))
    · rw [e'] at e; injection e with e; omega
theorem Only.thenS {S T : Nat → Prop} {a w w' : World} (h : Only T a w) (o : Only S w w') (hS : ∀ i, S i → a.heap.size ≤ i) : Only T a w' := h.trans' o fun i hi hs => by have := hS i hs; omega

def exL1 : List (Int × Nat) := [(10, 0)]
def exL2 : List (Int × Nat) := [(12, 1), (10, 0)]
def exL3 : List (Int × Nat) := [(12, 1), (11, 2), (10, 0)]
def exL4 : List (Int × Nat) := [(11, 2), (10, 0)]
def exL5 : List (Int × Nat) := [(11, 2), (10, 0), (9, 1)]

set_option maxHeartbeats 4000000 in
set_option maxRecDepth 100000 in
theorem works_walk (w : World) : Calls Try.prog 9 #[] w fun e w' => e = .returned (.bool true) ∧ Only (fun _ => False) w w' := by
  have S0 := fun W => Lib.hid (show Calls Try.prog 10 #[.int .u8 1, .int .i64 3] W (SdNew W 3 (-1)) from s_new_buy W 3 (by decide))
  go_enter Try.func9, Try.ntmps9
  go_wp2_with fail
  refine (S0 _).out.mono ?_
  intro e w1 hq
  obtain ⟨b, gu, rfl, H0, o0, g1, g2⟩ := hq
  have K1 := Lib.hid (s_add H0 10 (by decide) (by decide) (by decide) 0 (by decide) (by decide) (fun k hk => by omega) (by decide))
  rw [show put (-1) 10 0 [] = exL1 by decide] at K1
  have hl0 : ∀ i, SdB b gu (.slice none 0 0) i → w.heap.size ≤ i := fun i hi => by rcases hi with e | e | e; omega; omega; cases e
  have HL0 := Lib.hid hl0
  clear H0 hl0
  go_wp2_with fail
  refine K1.out.mono ?_
  intro e w2 hq
  obtain ⟨v1, rfl, H1, o1, f1⟩ := hq
  have n1 := o0.size
  have HL1 := Lib.hid (SdB.low HL0.out n1 f1)
  have p1 := o0.thenS o1 HL0.out
  have K2 := Lib.hid (s_add H1 12 (by decide) (by decide) (by decide) 1 (by decide) (by decide) (fun k hk => by rw [show k = 0 by omega]; decide) (by decide))
  rw [show put (-1) 12 1 exL1 = exL2 by decide] at K2
  clear H1 K1 f1
  go_wp2_with fail
  refine K2.out.mono ?_
  intro e w3 hq
  obtain ⟨v2, rfl, H2, o2, f2⟩ := hq
  have n2 := p1.size
  have HL2 := Lib.hid (SdB.low HL1.out n2 f2)
  have p2 := p1.thenS o2 HL1.out
  have K3 := Lib.hid (s_add H2 11 (by decide) (by decide) (by decide) 2 (by decide) (by decide) (fun k hk => by
    have : k = 0 ∨ k = 1 := by omega
    rcases this with rfl | rfl <;> decide) (by decide))
  rw [show put (-1) 11 2 exL2 = exL3 by decide] at K3
  clear H2 K2 f2
  go_wp2_with fail
  refine K3.out.mono ?_
  intro e w4 hq
  obtain ⟨v3, rfl, H3, o3, f3⟩ := hq
  have n3 := p2.size
  have HL3 := Lib.hid (SdB.low HL2.out n3 f3)
  have p3 := p2.thenS o3 HL2.out
  have HH3 := Lib.hid H3
  have K4 := Lib.hid (s_add_full H3 9 (by decide) (by decide) (by decide) (by decide))
  clear H3 K3 f3
  go_wp2_with fail
  refine K4.out.mono ?_
  rintro e w5 ⟨rfl, o4⟩
  have H4 := Lib.hid (SideU.only HH3.out o4 (fun _ _ => id))
  have p4 := p3.then0 o4
  have K5 := Lib.hid (s_best (12, 1) [(11, 2), (10, 0)] H4.out)
  have K6 := Lib.hid (s_at H4.out 1 (11, 2) rfl)
  have K7 := Lib.hid (s_better H4.out 11)
  rw [show pos (-1) 11 exL3 = 1 by decide] at K7
  simp only at K5 K6
  clear K4
  go_wp2_with fail
  refine K5.out.mono ?_
  rintro e w6 ⟨rfl, rfl⟩
  go_wp2_with fail
  refine K6.out.mono ?_
  rintro e w7 ⟨rfl, rfl⟩
  go_wp2_with fail
  refine K7.out.mono ?_
  rintro e w8 ⟨rfl, o8⟩
  have H8 := Lib.hid (SideU.only H4.out o8 (fun _ _ => id))
  have p8 := p4.then0 o8
  have K8 := Lib.hid (s_drop H8.out 12 0 (by decide) 1 rfl)
  rw [show cutAt 0 exL3 = exL4 by decide] at K8
  clear K5 K6 K7
  go_wp2_with fail
  refine K8.out.mono ?_
  intro e w9 hq
  obtain ⟨v9, rfl, H9, o9, f9⟩ := hq
  have n9 := p8.size
  have HL9 := Lib.hid (SdB.low HL3.out n9 f9)
  have p9 := p8.thenS o9 HL3.out
  have K9 := Lib.hid (s_add H9 9 (by decide) (by decide) (by decide) 1 (by decide) (by decide) (fun k hk => by rw [show k = 0 by omega]; decide) (by decide))
  clear H9 K8 f9
  go_wp2_with fail
  refine K9.out.mono ?_
  intro e w10 hq
  obtain ⟨v10, rfl, H10, o10, f10⟩ := hq
  have p10 := p9.thenS o10 HL9.out
  clear H10 K9 f10
  go_wp2_with fail
  go_returns
  exact ⟨rfl, p10⟩
end Go.Proofs.Ytkglplngnjgnhaa
