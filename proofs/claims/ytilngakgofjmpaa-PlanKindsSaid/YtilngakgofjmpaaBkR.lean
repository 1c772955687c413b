/- The book: Reduce. Conditions: a book as its New lays it. -/
import Derived.Test.YtilngakgofjmpaaBkE
namespace Go.Proofs.Ytilngakgofjmpaa
set_option linter.unusedVariables false
set_option linter.unusedSimpArgs false
open Go.RowKit Go.Shelf
open Od (OrdR Lay FreeN Blk4)

/-- What Reduce answers, and the orders behind it. -/
def redE (l : Bool → List OrdR) (k m : Int) : Int := match getL l k with | none => 63 | some o => if m < 1 ∨ o.q ≤ m then 64 else 0
def less (o : OrdR) (m : Int) : OrdR := { o with q := o.q - m }
def redS (l : Bool → List OrdR) (k m : Int) : Bool → List OrdR := match getL l k with | none => l | some o => if m < 1 ∨ o.q ≤ m then l else fun q => setL k (less o m) (l q)

section
variable {w : World} {b : Nat} {bs gu : Bool → Nat} {hv : Bool → Value} {ba gl gr gf bm most room : Nat} {L : Bool → List (Int × Nat)} {R : Nat → List Nat} {V : Nat → OrdR} {F : Int → Option Int} {l : Bool → List OrdR}

end

theorem bk_get {w : World} {b most room : Nat} {T : Nat → Prop} {l : Bool → List OrdR} (h : Bk w b T most room l) (k : Int) (hw : Wf k) : Calls Try.prog 38 #[.pointer (some ⟨b, 0, none⟩), .int .i64 k] w fun e w' => e = .returned (match getL l k with | none => .tuple #[ordV zOrd, .bool false] | some o => .tuple #[ordV o, .bool true]) ∧ Only (fun _ => False) w w' := by
  obtain ⟨bs, gu, hv, ba, gl, gr, gf, bm, L, R, V, F, h, rfl⟩ := h
  cases hf : F k with
  | none => rw [h.rep.getNone hw hf]; exact k_get_no h k hw hf
  | some v =>
    obtain ⟨n, q, rfl, hmem, hi, hin⟩ := h.rep.found hw hf
    rw [h.rep.getSome hw hf]; exact k_get h k hw n hf
end Go.Proofs.Ytilngakgofjmpaa
