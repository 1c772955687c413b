/- A function that ranges over a function again and again: its marks, taken up at its return. No condition. -/
import Derived.Test.YtiiflgihjnlmcaaSlotsK
import Derived.RangeFuncRecord
namespace Go.Proofs.Ytiiflgihjnlmcaa
set_option linter.unusedVariables false
set_option linter.unusedSimpArgs false
open Go.RowKit

theorem Only.putObj {S : Nat → Prop} {a w : World} (h : Only S a w) {l : Nat} (hl : S l ∨ a.heap.size ≤ l) (o : Obj) : Only S a (w.putObj l o) := by
  refine ⟨h.os, h.tape, h.output, ?_, fun i hi hs => ?_⟩
  · have := (grownBy_putObj' w l o).size
    exact Nat.le_trans h.size this
  · refine (World.putObj_heap_other ?_).trans (h.block i hi hs)
    rintro rfl
    rcases hl with h1 | h1
    · exact hs h1
    · omega

def marks (Ds : List Nat) : List Deferred := Ds.map fun D => { target := .collected D, args := #[] }

theorem leaves_marks {F : Fence} {n : Nat} {P : Program} {fn : Func} {tmps : Array Value} {R : Ending → World → Prop} : ∀ (Ds : List Nat) (w : World), Ds.Nodup → (∀ D ∈ Ds, w.heap[D]? = some (.deferred (some []))) →
    (∀ w', Only (· ∈ Ds) w w' → LeavesInM F n P fn tmps R [] .returning w') → LeavesInM F n P fn tmps R (marks Ds) .returning w := by
  intro Ds
  induction Ds with
  | nil => intro w _ _ h; exact h w (Only.refl _ _)
  | cons D Ds ih =>
    intro w hn hD h
    have h2 := List.nodup_cons.1 hn
    refine ⟨by simp, .inl ⟨D, _, rfl, run_takeDeferred (hD D (by simp)), ?_⟩⟩
    refine ih _ h2.2 (fun E hE => ?_) (fun w' ho => h w' ?_)
    · rw [World.putObj_heap_other (fun e => h2.1 (by rw [← e]; exact hE))]; exact hD E (by simp [hE])
    · refine Only.trans ((Only.refl _ w).putObj (.inl (by simp)) _) (ho.mono fun i _ hi => by simp [hi])
end Go.Proofs.Ytiiflgihjnlmcaa
