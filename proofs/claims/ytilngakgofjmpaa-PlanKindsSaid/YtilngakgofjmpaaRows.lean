/-
  No cell of these rows narrows 'for every input' (looked for: loops, veiled, ifaces, maps, wideKeys, modest, calm, conditions, laid).
  DERIVED. THE GIVEN ROWS OF THIS SEAT. 12 by the template 'for every input the law returns true; each argument reads behind the call as it read before'; 0 by the template 'total and deterministic' (their statements: YtilngakgofjmpaaTotals.lean).
  GIVEN WITH THE SEED: the statements are not yours to turn. If you find one false, say at which input.
  Laid BY PROGRAM, IN A SANDBOX (cutbox-rows.mjs): the forced cells as the released guide's own fill.sh prints them over the translation 9320d6764c607469… (all of the seat's roots in one cut). By AI agents, Wed Nov 11 2026. No macro, syntax, notation, axiom, sorry.
-/
import Derived.Test.YtilngakgofjmpaaChecked
import GoSem.Claim
import GoSem.ClaimJoined
import GoSem.ClaimMapViews
import Derived.JoinedTies
import Derived.KernelRfl
namespace Go.Proofs.Ytilngakgofjmpaa
/- THE CELL 'sum', in the pinned program and in every row, IS THE sha256 OF THE DUMP (.gsa) THAT YtilngakgofjmpaaProg.lean LOADS. Nothing in Lean hashes anything: it is a label: what it is worth is what the hold of that sum in a sandbox is worth. -/
noncomputable def Try.pinned : Pinned := { name := "ytilngakgofjmpaa", sum := "9320d6764c607469577b5b62aff90bc2eb8128c7bd920df3cb827ca816227eac", checked := Try.checked }
namespace Rows
def none {H : Type} : Left H := { results := [], args := [] }

/-- 'tripwirelaw05.LevelsOrder': WHATEVER THE INPUT: true; the input reads as it did. -/
def levelsOrderSpec : ChangeSpec := { name := "levelsOrder", fn := fun _ => fun
  | [d1, d2, d3] => { results := [.lit (.bool true)], args := [d1, d2, d3] }
  | _ => none }
def levelsOrderRow : OpenClaim := { program := "ytilngakgofjmpaa", sum := "9320d6764c607469577b5b62aff90bc2eb8128c7bd920df3cb827ca816227eac", func := "tripwire/tripwirelaw05.LevelsOrder", spec := "levelsOrder", inPlace := ["slices.overlaps[tripwire/levels.level]"], unfollowed := true, recurses := true, apart := false }
def LevelsOrderSaid : Prop := levelsOrderRow.holds Try.pinned (OpenSpec.ofChange levelsOrderSpec)

/-- ITS FALSE NEIGHBOUR: 'it returns false'. Refute it at one input. -/
def levelsOrderWrong : ChangeSpec := { name := "levelsOrder", fn := fun _ => fun
  | [d1, d2, d3] => { results := [.lit (.bool false)], args := [d1, d2, d3] }
  | _ => none }
def LevelsOrderWrongFalsely : Prop := levelsOrderRow.holds Try.pinned (OpenSpec.ofChange levelsOrderWrong)

/-- 'tripwirelaw05.LevelsHalves': WHATEVER THE INPUT: true; the input reads as it did. -/
def levelsHalvesSpec : ChangeSpec := { name := "levelsHalves", fn := fun _ => fun
  | [d1, d2] => { results := [.lit (.bool true)], args := [d1, d2] }
  | _ => none }
def levelsHalvesRow : OpenClaim := { program := "ytilngakgofjmpaa", sum := "9320d6764c607469577b5b62aff90bc2eb8128c7bd920df3cb827ca816227eac", func := "tripwire/tripwirelaw05.LevelsHalves", spec := "levelsHalves", inPlace := ["slices.overlaps[tripwire/levels.level]"], unfollowed := true, recurses := true, apart := false }
def LevelsHalvesSaid : Prop := levelsHalvesRow.holds Try.pinned (OpenSpec.ofChange levelsHalvesSpec)

/-- ITS FALSE NEIGHBOUR: 'it returns false'. Refute it at one input. -/
def levelsHalvesWrong : ChangeSpec := { name := "levelsHalves", fn := fun _ => fun
  | [d1, d2] => { results := [.lit (.bool false)], args := [d1, d2] }
  | _ => none }
def LevelsHalvesWrongFalsely : Prop := levelsHalvesRow.holds Try.pinned (OpenSpec.ofChange levelsHalvesWrong)

/-- 'tripwirelaw05.LevelsDoes': WHATEVER THE INPUT: true; the input reads as it did. -/
def levelsDoesSpec : ChangeSpec := { name := "levelsDoes", fn := fun _ => fun
  | [d1, d2, d3] => { results := [.lit (.bool true)], args := [d1, d2, d3] }
  | _ => none }
def levelsDoesRow : OpenClaim := { program := "ytilngakgofjmpaa", sum := "9320d6764c607469577b5b62aff90bc2eb8128c7bd920df3cb827ca816227eac", func := "tripwire/tripwirelaw05.LevelsDoes", spec := "levelsDoes", inPlace := ["slices.overlaps[tripwire/levels.level]"], unfollowed := true, recurses := true, apart := false }
def LevelsDoesSaid : Prop := levelsDoesRow.holds Try.pinned (OpenSpec.ofChange levelsDoesSpec)

/-- ITS FALSE NEIGHBOUR: 'it returns false'. Refute it at one input. -/
def levelsDoesWrong : ChangeSpec := { name := "levelsDoes", fn := fun _ => fun
  | [d1, d2, d3] => { results := [.lit (.bool false)], args := [d1, d2, d3] }
  | _ => none }
def LevelsDoesWrongFalsely : Prop := levelsDoesRow.holds Try.pinned (OpenSpec.ofChange levelsDoesWrong)

/-- 'tripwirelaw06.BookBack': WHATEVER THE INPUT: true; the input reads as it did. -/
def bookBackSpec : ChangeSpec := { name := "bookBack", fn := fun _ => fun
  | [d1, d2] => { results := [.lit (.bool true)], args := [d1, d2] }
  | _ => none }
def bookBackRow : OpenClaim := { program := "ytilngakgofjmpaa", sum := "9320d6764c607469577b5b62aff90bc2eb8128c7bd920df3cb827ca816227eac", func := "tripwire/tripwirelaw06.BookBack", spec := "bookBack", inPlace := ["slices.overlaps[tripwire/levels.level]"], unfollowed := true, recurses := true, apart := false }
def BookBackSaid : Prop := bookBackRow.holds Try.pinned (OpenSpec.ofChange bookBackSpec)

/-- ITS FALSE NEIGHBOUR: 'it returns false'. Refute it at one input. -/
def bookBackWrong : ChangeSpec := { name := "bookBack", fn := fun _ => fun
  | [d1, d2] => { results := [.lit (.bool false)], args := [d1, d2] }
  | _ => none }
def BookBackWrongFalsely : Prop := bookBackRow.holds Try.pinned (OpenSpec.ofChange bookBackWrong)

/-- 'tripwirelaw06.BookDoes': WHATEVER THE INPUT: true; the input reads as it did. -/
def bookDoesSpec : ChangeSpec := { name := "bookDoes", fn := fun _ => fun
  | [d1, d2, d3] => { results := [.lit (.bool true)], args := [d1, d2, d3] }
  | _ => none }
def bookDoesRow : OpenClaim := { program := "ytilngakgofjmpaa", sum := "9320d6764c607469577b5b62aff90bc2eb8128c7bd920df3cb827ca816227eac", func := "tripwire/tripwirelaw06.BookDoes", spec := "bookDoes", inPlace := ["slices.overlaps[tripwire/levels.level]"], unfollowed := true, recurses := true, apart := false }
def BookDoesSaid : Prop := bookDoesRow.holds Try.pinned (OpenSpec.ofChange bookDoesSpec)

/-- ITS FALSE NEIGHBOUR: 'it returns false'. Refute it at one input. -/
def bookDoesWrong : ChangeSpec := { name := "bookDoes", fn := fun _ => fun
  | [d1, d2, d3] => { results := [.lit (.bool false)], args := [d1, d2, d3] }
  | _ => none }
def BookDoesWrongFalsely : Prop := bookDoesRow.holds Try.pinned (OpenSpec.ofChange bookDoesWrong)

/-- 'tripwirelaw06.BookOrder': WHATEVER THE INPUT: true; the input reads as it did. -/
def bookOrderSpec : ChangeSpec := { name := "bookOrder", fn := fun _ => fun
  | [d1, d2, d3] => { results := [.lit (.bool true)], args := [d1, d2, d3] }
  | _ => none }
def bookOrderRow : OpenClaim := { program := "ytilngakgofjmpaa", sum := "9320d6764c607469577b5b62aff90bc2eb8128c7bd920df3cb827ca816227eac", func := "tripwire/tripwirelaw06.BookOrder", spec := "bookOrder", inPlace := ["slices.overlaps[tripwire/levels.level]"], unfollowed := true, recurses := true, apart := false }
def BookOrderSaid : Prop := bookOrderRow.holds Try.pinned (OpenSpec.ofChange bookOrderSpec)

/-- ITS FALSE NEIGHBOUR: 'it returns false'. Refute it at one input. -/
def bookOrderWrong : ChangeSpec := { name := "bookOrder", fn := fun _ => fun
  | [d1, d2, d3] => { results := [.lit (.bool false)], args := [d1, d2, d3] }
  | _ => none }
def BookOrderWrongFalsely : Prop := bookOrderRow.holds Try.pinned (OpenSpec.ofChange bookOrderWrong)

/-- 'tripwirelaw08.PlanWorth': WHATEVER THE INPUT: true; the input reads as it did. -/
def planWorthSpec : ChangeSpec := { name := "planWorth", fn := fun _ => fun
  | [d] => { results := [.lit (.bool true)], args := [d] }
  | _ => none }
def planWorthRow : OpenClaim := { program := "ytilngakgofjmpaa", sum := "9320d6764c607469577b5b62aff90bc2eb8128c7bd920df3cb827ca816227eac", func := "tripwire/tripwirelaw08.PlanWorth", spec := "planWorth", inPlace := ["slices.overlaps[tripwire/levels.level]", "math/bits.Add64"], unfollowed := true, recurses := true, apart := false }
def PlanWorthSaid : Prop := planWorthRow.holds Try.pinned (OpenSpec.ofChange planWorthSpec)

/-- ITS FALSE NEIGHBOUR: 'it returns false'. Refute it at one input. -/
def planWorthWrong : ChangeSpec := { name := "planWorth", fn := fun _ => fun
  | [d] => { results := [.lit (.bool false)], args := [d] }
  | _ => none }
def PlanWorthWrongFalsely : Prop := planWorthRow.holds Try.pinned (OpenSpec.ofChange planWorthWrong)

/-- 'tripwirelaw08.PlanAdds': WHATEVER THE INPUT: true; the input reads as it did. -/
def planAddsSpec : ChangeSpec := { name := "planAdds", fn := fun _ => fun
  | [d1, d2, d3] => { results := [.lit (.bool true)], args := [d1, d2, d3] }
  | _ => none }
def planAddsRow : OpenClaim := { program := "ytilngakgofjmpaa", sum := "9320d6764c607469577b5b62aff90bc2eb8128c7bd920df3cb827ca816227eac", func := "tripwire/tripwirelaw08.PlanAdds", spec := "planAdds", inPlace := ["slices.overlaps[tripwire/levels.level]", "math/bits.Add64"], unfollowed := true, recurses := true, apart := false }
def PlanAddsSaid : Prop := planAddsRow.holds Try.pinned (OpenSpec.ofChange planAddsSpec)

/-- ITS FALSE NEIGHBOUR: 'it returns false'. Refute it at one input. -/
def planAddsWrong : ChangeSpec := { name := "planAdds", fn := fun _ => fun
  | [d1, d2, d3] => { results := [.lit (.bool false)], args := [d1, d2, d3] }
  | _ => none }
def PlanAddsWrongFalsely : Prop := planAddsRow.holds Try.pinned (OpenSpec.ofChange planAddsWrong)

/-- 'tripwirelaw08.PlanKinds': WHATEVER THE INPUT: true; the input reads as it did. -/
def planKindsSpec : ChangeSpec := { name := "planKinds", fn := fun _ => fun
  | [d1, d2] => { results := [.lit (.bool true)], args := [d1, d2] }
  | _ => none }
def planKindsRow : OpenClaim := { program := "ytilngakgofjmpaa", sum := "9320d6764c607469577b5b62aff90bc2eb8128c7bd920df3cb827ca816227eac", func := "tripwire/tripwirelaw08.PlanKinds", spec := "planKinds", inPlace := ["slices.overlaps[tripwire/levels.level]", "math/bits.Add64"], unfollowed := true, recurses := true, apart := false }
def PlanKindsSaid : Prop := planKindsRow.holds Try.pinned (OpenSpec.ofChange planKindsSpec)

/-- ITS FALSE NEIGHBOUR: 'it returns false'. Refute it at one input. -/
def planKindsWrong : ChangeSpec := { name := "planKinds", fn := fun _ => fun
  | [d1, d2] => { results := [.lit (.bool false)], args := [d1, d2] }
  | _ => none }
def PlanKindsWrongFalsely : Prop := planKindsRow.holds Try.pinned (OpenSpec.ofChange planKindsWrong)

/-- 'tripwirelaw08.PlanMore': WHATEVER THE INPUT: true; the input reads as it did. -/
def planMoreSpec : ChangeSpec := { name := "planMore", fn := fun _ => fun
  | [d1, d2, d3, d4] => { results := [.lit (.bool true)], args := [d1, d2, d3, d4] }
  | _ => none }
def planMoreRow : OpenClaim := { program := "ytilngakgofjmpaa", sum := "9320d6764c607469577b5b62aff90bc2eb8128c7bd920df3cb827ca816227eac", func := "tripwire/tripwirelaw08.PlanMore", spec := "planMore", inPlace := ["slices.overlaps[tripwire/levels.level]", "math/bits.Add64"], unfollowed := true, recurses := true, apart := false }
def PlanMoreSaid : Prop := planMoreRow.holds Try.pinned (OpenSpec.ofChange planMoreSpec)

/-- ITS FALSE NEIGHBOUR: 'it returns false'. Refute it at one input. -/
def planMoreWrong : ChangeSpec := { name := "planMore", fn := fun _ => fun
  | [d1, d2, d3, d4] => { results := [.lit (.bool false)], args := [d1, d2, d3, d4] }
  | _ => none }
def PlanMoreWrongFalsely : Prop := planMoreRow.holds Try.pinned (OpenSpec.ofChange planMoreWrong)

/-- 'tripwirelaw08.PlanDoes': WHATEVER THE INPUT: true; the input reads as it did. -/
def planDoesSpec : ChangeSpec := { name := "planDoes", fn := fun _ => fun
  | [d1, d2, d3, d4] => { results := [.lit (.bool true)], args := [d1, d2, d3, d4] }
  | _ => none }
def planDoesRow : OpenClaim := { program := "ytilngakgofjmpaa", sum := "9320d6764c607469577b5b62aff90bc2eb8128c7bd920df3cb827ca816227eac", func := "tripwire/tripwirelaw08.PlanDoes", spec := "planDoes", inPlace := ["slices.overlaps[tripwire/levels.level]", "math/bits.Add64"], unfollowed := true, recurses := true, apart := false }
def PlanDoesSaid : Prop := planDoesRow.holds Try.pinned (OpenSpec.ofChange planDoesSpec)

/-- ITS FALSE NEIGHBOUR: 'it returns false'. Refute it at one input. -/
def planDoesWrong : ChangeSpec := { name := "planDoes", fn := fun _ => fun
  | [d1, d2, d3, d4] => { results := [.lit (.bool false)], args := [d1, d2, d3, d4] }
  | _ => none }
def PlanDoesWrongFalsely : Prop := planDoesRow.holds Try.pinned (OpenSpec.ofChange planDoesWrong)

/-- 'tripwirelaw08.PlanAmends': WHATEVER THE INPUT: true; the input reads as it did. -/
def planAmendsSpec : ChangeSpec := { name := "planAmends", fn := fun _ => fun
  | [d1, d2, d3, d4, d5] => { results := [.lit (.bool true)], args := [d1, d2, d3, d4, d5] }
  | _ => none }
def planAmendsRow : OpenClaim := { program := "ytilngakgofjmpaa", sum := "9320d6764c607469577b5b62aff90bc2eb8128c7bd920df3cb827ca816227eac", func := "tripwire/tripwirelaw08.PlanAmends", spec := "planAmends", inPlace := ["slices.overlaps[tripwire/levels.level]", "math/bits.Add64"], unfollowed := true, recurses := true, apart := false }
def PlanAmendsSaid : Prop := planAmendsRow.holds Try.pinned (OpenSpec.ofChange planAmendsSpec)

/-- ITS FALSE NEIGHBOUR: 'it returns false'. Refute it at one input. -/
def planAmendsWrong : ChangeSpec := { name := "planAmends", fn := fun _ => fun
  | [d1, d2, d3, d4, d5] => { results := [.lit (.bool false)], args := [d1, d2, d3, d4, d5] }
  | _ => none }
def PlanAmendsWrongFalsely : Prop := planAmendsRow.holds Try.pinned (OpenSpec.ofChange planAmendsWrong)

/- THE SECOND FORM. 'bulk': how many values and letters a reading holds, each counted each time it is reached (what is shared counts as often as it is met; a slice's spare places count too). A statement '..UptoSaid' is the law's where the arguments, and the package variables that the reading takes, are together of bulk at most 1048576: NARROWER than '..Said'. Prove '..Said' where nothing that the law and all that it calls make is longer than what came in: it says more and counts as full. Else prove '..UptoSaid'. A law counts once. -/
mutual
def uptoBulk {H : Type} : DataW H → Nat
  | .lit (.string bytes) => bytes.length + 1
  | .lit _ => 1
  | .nil => 1
  | .ptr d => uptoBulk d + 1
  | .slice elems spare => uptoBulkAll elems + uptoBulkAll spare + 1
  | .agg parts => uptoBulkAll parts + 1
  | .iface _ d => uptoBulk d + 1
  | .map entries => uptoBulkEntries entries + 1
  | .held _ => 1
def uptoBulkAll {H : Type} : List (DataW H) → Nat
  | [] => 0
  | d :: r => uptoBulk d + uptoBulkAll r
def uptoBulkEntries {H : Type} : List (Lit × DataW H) → Nat
  | [] => 0
  | x :: r => uptoBulkEntry x + uptoBulkEntries r
def uptoBulkEntry {H : Type} : Lit × DataW H → Nat
  | (.string bytes, d) => bytes.length + uptoBulk d + 1
  | (_, d) => uptoBulk d + 1
 end
def uptoSmall : (H : Type) → List (DataW H) → Bool := fun _ ds => decide (uptoBulkAll ds ≤ 1048576)
def OpenSpec.upto (s : _root_.Go.ChangeSpec) : _root_.Go.OpenSpec := { _root_.Go.OpenSpec.ofChange s with cond := some uptoSmall }

/-- 'tripwirelaw05.LevelsOrder', WHERE WHAT IT READS IS OF BULK AT MOST 1048576: true; the input reads as it did. -/
def levelsOrderUptoRow : OpenClaim := { program := "ytilngakgofjmpaa", sum := "9320d6764c607469577b5b62aff90bc2eb8128c7bd920df3cb827ca816227eac", func := "tripwire/tripwirelaw05.LevelsOrder", spec := "levelsOrder", inPlace := ["slices.overlaps[tripwire/levels.level]"], unfollowed := true, recurses := true, apart := false, narrowed := true }
def LevelsOrderUptoSaid : Prop := levelsOrderUptoRow.holds Try.pinned (OpenSpec.upto levelsOrderSpec)

/-- 'tripwirelaw05.LevelsHalves', WHERE WHAT IT READS IS OF BULK AT MOST 1048576: true; the input reads as it did. -/
def levelsHalvesUptoRow : OpenClaim := { program := "ytilngakgofjmpaa", sum := "9320d6764c607469577b5b62aff90bc2eb8128c7bd920df3cb827ca816227eac", func := "tripwire/tripwirelaw05.LevelsHalves", spec := "levelsHalves", inPlace := ["slices.overlaps[tripwire/levels.level]"], unfollowed := true, recurses := true, apart := false, narrowed := true }
def LevelsHalvesUptoSaid : Prop := levelsHalvesUptoRow.holds Try.pinned (OpenSpec.upto levelsHalvesSpec)

/-- 'tripwirelaw05.LevelsDoes', WHERE WHAT IT READS IS OF BULK AT MOST 1048576: true; the input reads as it did. -/
def levelsDoesUptoRow : OpenClaim := { program := "ytilngakgofjmpaa", sum := "9320d6764c607469577b5b62aff90bc2eb8128c7bd920df3cb827ca816227eac", func := "tripwire/tripwirelaw05.LevelsDoes", spec := "levelsDoes", inPlace := ["slices.overlaps[tripwire/levels.level]"], unfollowed := true, recurses := true, apart := false, narrowed := true }
def LevelsDoesUptoSaid : Prop := levelsDoesUptoRow.holds Try.pinned (OpenSpec.upto levelsDoesSpec)

/-- 'tripwirelaw06.BookBack', WHERE WHAT IT READS IS OF BULK AT MOST 1048576: true; the input reads as it did. -/
def bookBackUptoRow : OpenClaim := { program := "ytilngakgofjmpaa", sum := "9320d6764c607469577b5b62aff90bc2eb8128c7bd920df3cb827ca816227eac", func := "tripwire/tripwirelaw06.BookBack", spec := "bookBack", inPlace := ["slices.overlaps[tripwire/levels.level]"], unfollowed := true, recurses := true, apart := false, narrowed := true }
def BookBackUptoSaid : Prop := bookBackUptoRow.holds Try.pinned (OpenSpec.upto bookBackSpec)

/-- 'tripwirelaw06.BookDoes', WHERE WHAT IT READS IS OF BULK AT MOST 1048576: true; the input reads as it did. -/
def bookDoesUptoRow : OpenClaim := { program := "ytilngakgofjmpaa", sum := "9320d6764c607469577b5b62aff90bc2eb8128c7bd920df3cb827ca816227eac", func := "tripwire/tripwirelaw06.BookDoes", spec := "bookDoes", inPlace := ["slices.overlaps[tripwire/levels.level]"], unfollowed := true, recurses := true, apart := false, narrowed := true }
def BookDoesUptoSaid : Prop := bookDoesUptoRow.holds Try.pinned (OpenSpec.upto bookDoesSpec)

/-- 'tripwirelaw06.BookOrder', WHERE WHAT IT READS IS OF BULK AT MOST 1048576: true; the input reads as it did. -/
def bookOrderUptoRow : OpenClaim := { program := "ytilngakgofjmpaa", sum := "9320d6764c607469577b5b62aff90bc2eb8128c7bd920df3cb827ca816227eac", func := "tripwire/tripwirelaw06.BookOrder", spec := "bookOrder", inPlace := ["slices.overlaps[tripwire/levels.level]"], unfollowed := true, recurses := true, apart := false, narrowed := true }
def BookOrderUptoSaid : Prop := bookOrderUptoRow.holds Try.pinned (OpenSpec.upto bookOrderSpec)

/-- 'tripwirelaw08.PlanWorth', WHERE WHAT IT READS IS OF BULK AT MOST 1048576: true; the input reads as it did. -/
def planWorthUptoRow : OpenClaim := { program := "ytilngakgofjmpaa", sum := "9320d6764c607469577b5b62aff90bc2eb8128c7bd920df3cb827ca816227eac", func := "tripwire/tripwirelaw08.PlanWorth", spec := "planWorth", inPlace := ["slices.overlaps[tripwire/levels.level]", "math/bits.Add64"], unfollowed := true, recurses := true, apart := false, narrowed := true }
def PlanWorthUptoSaid : Prop := planWorthUptoRow.holds Try.pinned (OpenSpec.upto planWorthSpec)

/-- 'tripwirelaw08.PlanAdds', WHERE WHAT IT READS IS OF BULK AT MOST 1048576: true; the input reads as it did. -/
def planAddsUptoRow : OpenClaim := { program := "ytilngakgofjmpaa", sum := "9320d6764c607469577b5b62aff90bc2eb8128c7bd920df3cb827ca816227eac", func := "tripwire/tripwirelaw08.PlanAdds", spec := "planAdds", inPlace := ["slices.overlaps[tripwire/levels.level]", "math/bits.Add64"], unfollowed := true, recurses := true, apart := false, narrowed := true }
def PlanAddsUptoSaid : Prop := planAddsUptoRow.holds Try.pinned (OpenSpec.upto planAddsSpec)

/-- 'tripwirelaw08.PlanKinds', WHERE WHAT IT READS IS OF BULK AT MOST 1048576: true; the input reads as it did. -/
def planKindsUptoRow : OpenClaim := { program := "ytilngakgofjmpaa", sum := "9320d6764c607469577b5b62aff90bc2eb8128c7bd920df3cb827ca816227eac", func := "tripwire/tripwirelaw08.PlanKinds", spec := "planKinds", inPlace := ["slices.overlaps[tripwire/levels.level]", "math/bits.Add64"], unfollowed := true, recurses := true, apart := false, narrowed := true }
def PlanKindsUptoSaid : Prop := planKindsUptoRow.holds Try.pinned (OpenSpec.upto planKindsSpec)

/-- 'tripwirelaw08.PlanMore', WHERE WHAT IT READS IS OF BULK AT MOST 1048576: true; the input reads as it did. -/
def planMoreUptoRow : OpenClaim := { program := "ytilngakgofjmpaa", sum := "9320d6764c607469577b5b62aff90bc2eb8128c7bd920df3cb827ca816227eac", func := "tripwire/tripwirelaw08.PlanMore", spec := "planMore", inPlace := ["slices.overlaps[tripwire/levels.level]", "math/bits.Add64"], unfollowed := true, recurses := true, apart := false, narrowed := true }
def PlanMoreUptoSaid : Prop := planMoreUptoRow.holds Try.pinned (OpenSpec.upto planMoreSpec)

/-- 'tripwirelaw08.PlanDoes', WHERE WHAT IT READS IS OF BULK AT MOST 1048576: true; the input reads as it did. -/
def planDoesUptoRow : OpenClaim := { program := "ytilngakgofjmpaa", sum := "9320d6764c607469577b5b62aff90bc2eb8128c7bd920df3cb827ca816227eac", func := "tripwire/tripwirelaw08.PlanDoes", spec := "planDoes", inPlace := ["slices.overlaps[tripwire/levels.level]", "math/bits.Add64"], unfollowed := true, recurses := true, apart := false, narrowed := true }
def PlanDoesUptoSaid : Prop := planDoesUptoRow.holds Try.pinned (OpenSpec.upto planDoesSpec)

/-- 'tripwirelaw08.PlanAmends', WHERE WHAT IT READS IS OF BULK AT MOST 1048576: true; the input reads as it did. -/
def planAmendsUptoRow : OpenClaim := { program := "ytilngakgofjmpaa", sum := "9320d6764c607469577b5b62aff90bc2eb8128c7bd920df3cb827ca816227eac", func := "tripwire/tripwirelaw08.PlanAmends", spec := "planAmends", inPlace := ["slices.overlaps[tripwire/levels.level]", "math/bits.Add64"], unfollowed := true, recurses := true, apart := false, narrowed := true }
def PlanAmendsUptoSaid : Prop := planAmendsUptoRow.holds Try.pinned (OpenSpec.upto planAmendsSpec)

end Rows
end Go.Proofs.Ytilngakgofjmpaa
