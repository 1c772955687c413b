/- SlotsLinks: the calls of its first loop, whatever they answer. Conditions: an arena as New lays it. -/
import Derived.Test.YtiiflgihjnlmcaaSlotsK
namespace Go.Proofs.Ytiiflgihjnlmcaa
set_option linter.unusedVariables false
set_option linter.unusedSimpArgs false
open Go.RowKit

/-- An arena lies there, whatever it holds. -/
def Some4 (w : World) (b gl gr gf nr room : Nat) : Prop := ∃ R V, Lay w b gl gr gf nr room R V
def AnyPush (w : World) (b gl gr gf nr room : Nat) (e : Ending) (w' : World) : Prop := ∃ x y : Int, e = .returned (.tuple #[.int .i64 x, .int .i64 y]) ∧ Some4 w' b gl gr gf nr room ∧ Only (Blk4 b gl gr gf) w w'
def AnyTake (w : World) (b gl gr gf nr room : Nat) (e : Ending) (w' : World) : Prop := ∃ (x : Int) (y : Bool), e = .returned (.tuple #[.int .i64 x, .bool y]) ∧ Some4 w' b gl gr gf nr room ∧ Only (Blk4 b gl gr gf) w w'
def AnyClear (w : World) (b gl gr gf nr room : Nat) (e : Ending) (w' : World) : Prop := ∃ (x : Int), e = .returned (.int .i64 x) ∧ Some4 w' b gl gr gf nr room ∧ Only (Blk4 b gl gr gf) w w'

theorem least_free {nr room : Nat} {R : Nat → List Nat} {m : Nat} (h : FreeN nr room R m) : ∃ n, FreeN nr room R n ∧ ∀ k, FreeN nr room R k → n ≤ k := by
  induction m using Nat.strongRecOn with
  | _ m ih =>
    by_cases h1 : ∃ k, k < m ∧ FreeN nr room R k
    · obtain ⟨k, hk, hf⟩ := h1
      exact ih k hk hf
    · refine ⟨m, h, fun k hk => ?_⟩
      rcases Nat.lt_or_ge k m with h2 | h2
      · exact absurd ⟨k, h2, hk⟩ h1
      · exact h2

theorem any_push (w : World) (b gl gr gf nr room : Nat) (h : Some4 w b gl gr gf nr room) (r v : Int) :
    Calls Try.prog 40 #[.pointer (some ⟨b, 0, none⟩), .int .i64 r, .int .i64 v] w (AnyPush w b gl gr gf nr room) := by
  obtain ⟨R, V, h⟩ := h
  by_cases hr : 0 ≤ r ∧ r < nr
  · obtain ⟨k, rfl⟩ : ∃ k : Nat, r = k := ⟨r.toNat, by omega⟩
    by_cases hf : ∃ m, FreeN nr room R m
    · obtain ⟨m, hm⟩ := hf
      obtain ⟨n, hn, hmin⟩ := least_free hm
      exact (h_push w b gl gr gf nr room R V h k n v (by omega) hn hmin).mono fun e w' ⟨h1, h2, h3⟩ => ⟨_, _, h1, ⟨_, _, h2⟩, h3⟩
    · exact (h_push_full w b gl gr gf nr room R V h k v hr (fun n hn => hf ⟨n, hn⟩)).mono fun e w' ⟨h1, h2⟩ => ⟨_, _, h1, ⟨_, _, h.keep h2 (fun _ _ => id)⟩, Only.of_none h2⟩
  · exact (h_push_bad w b gl gr gf nr room R V h r v hr).mono fun e w' ⟨h1, h2⟩ => ⟨_, _, h1, ⟨_, _, h.keep h2 (fun _ _ => id)⟩, Only.of_none h2⟩

theorem any_take (w : World) (b gl gr gf nr room : Nat) (h : Some4 w b gl gr gf nr room) (n : Int) :
    Calls Try.prog 41 #[.pointer (some ⟨b, 0, none⟩), .int .i64 n] w (AnyTake w b gl gr gf nr room) := by
  obtain ⟨R, V, h⟩ := h
  by_cases hn : ∃ r, r < nr ∧ ∃ m ∈ R r, (m : Int) = n
  · obtain ⟨r, hr, m, hm, rfl⟩ := hn
    obtain ⟨l1, l2, hs⟩ := List.append_of_mem hm
    exact (h_take w b gl gr gf nr room R V h r m hr l1 l2 hs).mono fun e w' ⟨h1, h2, h3⟩ => ⟨_, _, h1, ⟨_, _, h2⟩, h3⟩
  · exact (h_take_no w b gl gr gf nr room R V h n (fun r hr m hm e => hn ⟨r, hr, m, hm, e⟩)).mono fun e w' ⟨h1, h2⟩ => ⟨_, _, h1, ⟨_, _, h.keep h2 (fun _ _ => id)⟩, Only.of_none h2⟩

theorem any_clear (w : World) (b gl gr gf nr room : Nat) (h : Some4 w b gl gr gf nr room) (r : Int) :
    Calls Try.prog 64 #[.pointer (some ⟨b, 0, none⟩), .int .i64 r] w (AnyClear w b gl gr gf nr room) := by
  obtain ⟨R, V, h⟩ := h
  by_cases hr : 0 ≤ r ∧ r < nr
  · obtain ⟨k, rfl⟩ : ∃ k : Nat, r = k := ⟨r.toNat, by omega⟩
    refine (h_clear w b gl gr gf nr room R V h k (by omega)).mono fun e w' hc => ?_
    obtain ⟨V', h1, h2, _, h3⟩ := hc
    exact ⟨_, h1, ⟨_, _, h2⟩, h3⟩
  · exact (h_clear_no w b gl gr gf nr room R V h r hr).mono fun e w' ⟨h1, h2⟩ => ⟨_, h1, ⟨_, _, h2 ▸ h⟩, h2 ▸ Only.refl _ _⟩
end Go.Proofs.Ytiiflgihjnlmcaa
