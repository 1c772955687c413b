/-
  No cell of these rows narrows 'for every input' (looked for: loops, veiled, ifaces, maps, wideKeys, modest, calm, conditions, laid).
  DERIVED. THE GIVEN ROWS OF THIS SEAT. 6 by the template 'for every input the law returns true; each argument reads behind the call as it read before'; 0 by the template 'total and deterministic' (their statements: YtkglplngnjgnhaaTotals.lean).
  GIVEN WITH THE SEED: the statements are not yours to turn. If you find one false, say at which input.
  Laid BY PROGRAM, IN A SANDBOX (cutbox-rows.mjs): the forced cells as the released guide's own fill.sh prints them over the translation 7e67e31ef64aeafb… (all of the seat's roots in one cut). By AI agents, Wed Nov 11 2026. No macro, syntax, notation, axiom, sorry.
-/
import Derived.Test.YtkglplngnjgnhaaChecked
import GoSem.Claim
import GoSem.ClaimJoined
import GoSem.ClaimMapViews
import Derived.JoinedTies
import Derived.KernelRfl
namespace Go.Proofs.Ytkglplngnjgnhaa
/- THE CELL 'sum', in the pinned program and in every row, IS THE sha256 OF THE DUMP (.gsa) THAT YtkglplngnjgnhaaProg.lean LOADS. Nothing in Lean hashes anything: it is a label: what it is worth is what the hold of that sum in a sandbox is worth. -/
noncomputable def Try.pinned : Pinned := { name := "ytkglplngnjgnhaa", sum := "7e67e31ef64aeafb28f2e08b934b93162cc7f7c058570fa789cfb27b7ba920c0", checked := Try.checked }
namespace Rows
def none {H : Type} : Left H := { results := [], args := [] }

/-- 'tripwirelaw05.LevelsOrder': WHATEVER THE INPUT: true; the input reads as it did. -/
def levelsOrderSpec : ChangeSpec := { name := "levelsOrder", fn := fun _ => fun
  | [d1, d2, d3] => { results := [.lit (.bool true)], args := [d1, d2, d3] }
  | _ => none }
def levelsOrderRow : OpenClaim := { program := "ytkglplngnjgnhaa", sum := "7e67e31ef64aeafb28f2e08b934b93162cc7f7c058570fa789cfb27b7ba920c0", func := "tripwire/tripwirelaw05.LevelsOrder", spec := "levelsOrder", inPlace := ["slices.overlaps[tripwire/levels.level]"], unfollowed := true, recurses := true, apart := false }
def LevelsOrderSaid : Prop := levelsOrderRow.holds Try.pinned (OpenSpec.ofChange levelsOrderSpec)

/-- ITS FALSE NEIGHBOUR: 'it returns false'. Refute it at one input. -/
def levelsOrderWrong : ChangeSpec := { name := "levelsOrder", fn := fun _ => fun
  | [d1, d2, d3] => { results := [.lit (.bool false)], args := [d1, d2, d3] }
  | _ => none }
def LevelsOrderWrongFalsely : Prop := levelsOrderRow.holds Try.pinned (OpenSpec.ofChange levelsOrderWrong)

/-- 'tripwirelaw05.LevelsHalves': WHATEVER THE INPUT: true; the input reads as it did. -/
def levelsHalvesSpec : ChangeSpec := { name := "levelsHalves", fn := fun _ => fun
  | [d1, d2] => { results := [.lit (.bool true)], args := [d1, d2] }
  | _ => none }
def levelsHalvesRow : OpenClaim := { program := "ytkglplngnjgnhaa", sum := "7e67e31ef64aeafb28f2e08b934b93162cc7f7c058570fa789cfb27b7ba920c0", func := "tripwire/tripwirelaw05.LevelsHalves", spec := "levelsHalves", inPlace := ["slices.overlaps[tripwire/levels.level]"], unfollowed := true, recurses := true, apart := false }
def LevelsHalvesSaid : Prop := levelsHalvesRow.holds Try.pinned (OpenSpec.ofChange levelsHalvesSpec)

/-- ITS FALSE NEIGHBOUR: 'it returns false'. Refute it at one input. -/
def levelsHalvesWrong : ChangeSpec := { name := "levelsHalves", fn := fun _ => fun
  | [d1, d2] => { results := [.lit (.bool false)], args := [d1, d2] }
  | _ => none }
def LevelsHalvesWrongFalsely : Prop := levelsHalvesRow.holds Try.pinned (OpenSpec.ofChange levelsHalvesWrong)

/-- 'tripwirelaw05.LevelsDoes': WHATEVER THE INPUT: true; the input reads as it did. -/
def levelsDoesSpec : ChangeSpec := { name := "levelsDoes", fn := fun _ => fun
  | [d1, d2, d3] => { results := [.lit (.bool true)], args := [d1, d2, d3] }
  | _ => none }
def levelsDoesRow : OpenClaim := { program := "ytkglplngnjgnhaa", sum := "7e67e31ef64aeafb28f2e08b934b93162cc7f7c058570fa789cfb27b7ba920c0", func := "tripwire/tripwirelaw05.LevelsDoes", spec := "levelsDoes", inPlace := ["slices.overlaps[tripwire/levels.level]"], unfollowed := true, recurses := true, apart := false }
def LevelsDoesSaid : Prop := levelsDoesRow.holds Try.pinned (OpenSpec.ofChange levelsDoesSpec)

/-- ITS FALSE NEIGHBOUR: 'it returns false'. Refute it at one input. -/
def levelsDoesWrong : ChangeSpec := { name := "levelsDoes", fn := fun _ => fun
  | [d1, d2, d3] => { results := [.lit (.bool false)], args := [d1, d2, d3] }
  | _ => none }
def LevelsDoesWrongFalsely : Prop := levelsDoesRow.holds Try.pinned (OpenSpec.ofChange levelsDoesWrong)

/-- 'tripwirelaw06.BookBack': WHATEVER THE INPUT: true; the input reads as it did. -/
def bookBackSpec : ChangeSpec := { name := "bookBack", fn := fun _ => fun
  | [d1, d2] => { results := [.lit (.bool true)], args := [d1, d2] }
  | _ => none }
def bookBackRow : OpenClaim := { program := "ytkglplngnjgnhaa", sum := "7e67e31ef64aeafb28f2e08b934b93162cc7f7c058570fa789cfb27b7ba920c0", func := "tripwire/tripwirelaw06.BookBack", spec := "bookBack", inPlace := ["slices.overlaps[tripwire/levels.level]"], unfollowed := true, recurses := true, apart := false }
def BookBackSaid : Prop := bookBackRow.holds Try.pinned (OpenSpec.ofChange bookBackSpec)

/-- ITS FALSE NEIGHBOUR: 'it returns false'. Refute it at one input. -/
def bookBackWrong : ChangeSpec := { name := "bookBack", fn := fun _ => fun
  | [d1, d2] => { results := [.lit (.bool false)], args := [d1, d2] }
  | _ => none }
def BookBackWrongFalsely : Prop := bookBackRow.holds Try.pinned (OpenSpec.ofChange bookBackWrong)

/-- 'tripwirelaw06.BookDoes': WHATEVER THE INPUT: true; the input reads as it did. -/
def bookDoesSpec : ChangeSpec := { name := "bookDoes", fn := fun _ => fun
  | [d1, d2, d3] => { results := [.lit (.bool true)], args := [d1, d2, d3] }
  | _ => none }
def bookDoesRow : OpenClaim := { program := "ytkglplngnjgnhaa", sum := "7e67e31ef64aeafb28f2e08b934b93162cc7f7c058570fa789cfb27b7ba920c0", func := "tripwire/tripwirelaw06.BookDoes", spec := "bookDoes", inPlace := ["slices.overlaps[tripwire/levels.level]"], unfollowed := true, recurses := true, apart := false }
def BookDoesSaid : Prop := bookDoesRow.holds Try.pinned (OpenSpec.ofChange bookDoesSpec)

/-- ITS FALSE NEIGHBOUR: 'it returns false'. Refute it at one input. -/
def bookDoesWrong : ChangeSpec := { name := "bookDoes", fn := fun _ => fun
  | [d1, d2, d3] => { results := [.lit (.bool false)], args := [d1, d2, d3] }
  | _ => none }
def BookDoesWrongFalsely : Prop := bookDoesRow.holds Try.pinned (OpenSpec.ofChange bookDoesWrong)

/-- 'tripwirelaw06.BookOrder': WHATEVER THE INPUT: true; the input reads as it did. -/
def bookOrderSpec : ChangeSpec := { name := "bookOrder", fn := fun _ => fun
  | [d1, d2, d3] => { results := [.lit (.bool true)], args := [d1, d2, d3] }
  | _ => none }
def bookOrderRow : OpenClaim := { program := "ytkglplngnjgnhaa", sum := "7e67e31ef64aeafb28f2e08b934b93162cc7f7c058570fa789cfb27b7ba920c0", func := "tripwire/tripwirelaw06.BookOrder", spec := "bookOrder", inPlace := ["slices.overlaps[tripwire/levels.level]"], unfollowed := true, recurses := true, apart := false }
def BookOrderSaid : Prop := bookOrderRow.holds Try.pinned (OpenSpec.ofChange bookOrderSpec)

/-- ITS FALSE NEIGHBOUR: 'it returns false'. Refute it at one input. -/
def bookOrderWrong : ChangeSpec := { name := "bookOrder", fn := fun _ => fun
  | [d1, d2, d3] => { results := [.lit (.bool false)], args := [d1, d2, d3] }
  | _ => none }
def BookOrderWrongFalsely : Prop := bookOrderRow.holds Try.pinned (OpenSpec.ofChange bookOrderWrong)

/- THE SECOND FORM. 'bulk': how many values and letters a reading holds, each counted each time it is reached (what is shared counts as often as it is met; a slice's spare places count too). A statement '..UptoSaid' is the law's where the arguments, and the package variables that the reading takes, are together of bulk at most 1048576: NARROWER than '..Said'. Prove '..Said' where nothing that the law and all that it calls make is longer than what came in: it says more and counts as full. Else prove '..UptoSaid'. A law counts once. -/
mutual
def uptoBulk {H : Type} : DataW H → Nat
  | .lit (.string bytes) => bytes.length + 1
  | .lit _ => 1
  | .nil => 1
  | .ptr d => uptoBulk d + 1
  | .slice elems spare => uptoBulkAll elems + uptoBulkAll spare + 1
  | .agg parts => uptoBulkAll parts + 1
  | .iface _ d => uptoBulk d + 1
  | .map entries => uptoBulkEntries entries + 1
  | .held _ => 1
def uptoBulkAll {H : Type} : List (DataW H) → Nat
  | [] => 0
  | d :: r => uptoBulk d + uptoBulkAll r
def uptoBulkEntries {H : Type} : List (Lit × DataW H) → Nat
  | [] => 0
  | x :: r => uptoBulkEntry x + uptoBulkEntries r
def uptoBulkEntry {H : Type} : Lit × DataW H → Nat
  | (.string bytes, d) => bytes.length + uptoBulk d + 1
  | (_, d) => uptoBulk d + 1
 end
def uptoSmall : (H : Type) → List (DataW H) → Bool := fun _ ds => decide (uptoBulkAll ds ≤ 1048576)
def OpenSpec.upto (s : _root_.Go.ChangeSpec) : _root_.Go.OpenSpec := { _root_.Go.OpenSpec.ofChange s with cond := some uptoSmall }

/-- 'tripwirelaw05.LevelsOrder', WHERE WHAT IT READS IS OF BULK AT MOST 1048576: true; the input reads as it did. -/
def levelsOrderUptoRow : OpenClaim := { program := "ytkglplngnjgnhaa", sum := "7e67e31ef64aeafb28f2e08b934b93162cc7f7c058570fa789cfb27b7ba920c0", func := "tripwire/tripwirelaw05.LevelsOrder", spec := "levelsOrder", inPlace := ["slices.overlaps[tripwire/levels.level]"], unfollowed := true, recurses := true, apart := false, narrowed := true }
def LevelsOrderUptoSaid : Prop := levelsOrderUptoRow.holds Try.pinned (OpenSpec.upto levelsOrderSpec)

/-- 'tripwirelaw05.LevelsHalves', WHERE WHAT IT READS IS OF BULK AT MOST 1048576: true; the input reads as it did. -/
def levelsHalvesUptoRow : OpenClaim := { program := "ytkglplngnjgnhaa", sum := "7e67e31ef64aeafb28f2e08b934b93162cc7f7c058570fa789cfb27b7ba920c0", func := "tripwire/tripwirelaw05.LevelsHalves", spec := "levelsHalves", inPlace := ["slices.overlaps[tripwire/levels.level]"], unfollowed := true, recurses := true, apart := false, narrowed := true }
def LevelsHalvesUptoSaid : Prop := levelsHalvesUptoRow.holds Try.pinned (OpenSpec.upto levelsHalvesSpec)

/-- 'tripwirelaw05.LevelsDoes', WHERE WHAT IT READS IS OF BULK AT MOST 1048576: true; the input reads as it did. -/
def levelsDoesUptoRow : OpenClaim := { program := "ytkglplngnjgnhaa", sum := "7e67e31ef64aeafb28f2e08b934b93162cc7f7c058570fa789cfb27b7ba920c0", func := "tripwire/tripwirelaw05.LevelsDoes", spec := "levelsDoes", inPlace := ["slices.overlaps[tripwire/levels.level]"], unfollowed := true, recurses := true, apart := false, narrowed := true }
def LevelsDoesUptoSaid : Prop := levelsDoesUptoRow.holds Try.pinned (OpenSpec.upto levelsDoesSpec)

/-- 'tripwirelaw06.BookBack', WHERE WHAT IT READS IS OF BULK AT MOST 1048576: true; the input reads as it did. -/
def bookBackUptoRow : OpenClaim := { program := "ytkglplngnjgnhaa", sum := "7e67e31ef64aeafb28f2e08b934b93162cc7f7c058570fa789cfb27b7ba920c0", func := "tripwire/tripwirelaw06.BookBack", spec := "bookBack", inPlace := ["slices.overlaps[tripwire/levels.level]"], unfollowed := true, recurses := true, apart := false, narrowed := true }
def BookBackUptoSaid : Prop := bookBackUptoRow.holds Try.pinned (OpenSpec.upto bookBackSpec)

/-- 'tripwirelaw06.BookDoes', WHERE WHAT IT READS IS OF BULK AT MOST 1048576: true; the input reads as it did. -/
def bookDoesUptoRow : OpenClaim := { program := "ytkglplngnjgnhaa", sum := "7e67e31ef64aeafb28f2e08b934b93162cc7f7c058570fa789cfb27b7ba920c0", func := "tripwire/tripwirelaw06.BookDoes", spec := "bookDoes", inPlace := ["slices.overlaps[tripwire/levels.level]"], unfollowed := true, recurses := true, apart := false, narrowed := true }
def BookDoesUptoSaid : Prop := bookDoesUptoRow.holds Try.pinned (OpenSpec.upto bookDoesSpec)

/-- 'tripwirelaw06.BookOrder', WHERE WHAT IT READS IS OF BULK AT MOST 1048576: true; the input reads as it did. -/
def bookOrderUptoRow : OpenClaim := { program := "ytkglplngnjgnhaa", sum := "7e67e31ef64aeafb28f2e08b934b93162cc7f7c058570fa789cfb27b7ba920c0", func := "tripwire/tripwirelaw06.BookOrder", spec := "bookOrder", inPlace := ["slices.overlaps[tripwire/levels.level]"], unfollowed := true, recurses := true, apart := false, narrowed := true }
def BookOrderUptoSaid : Prop := bookOrderUptoRow.holds Try.pinned (OpenSpec.upto bookOrderSpec)

end Rows
end Go.Proofs.Ytkglplngnjgnhaa
