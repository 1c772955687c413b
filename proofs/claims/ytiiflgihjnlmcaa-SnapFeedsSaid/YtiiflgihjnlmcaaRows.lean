/-
  No cell of these rows narrows 'for every input' (looked for: loops, veiled, ifaces, maps, wideKeys, modest, calm, conditions, laid).
  DERIVED. THE GIVEN ROWS OF THIS SEAT. 11 by the template 'for every input the law returns true; each argument reads behind the call as it read before'; 0 by the template 'total and deterministic' (their statements: YtiiflgihjnlmcaaTotals.lean).
  GIVEN WITH THE SEED: the statements are not yours to turn. If you find one false, say at which input.
  Laid BY PROGRAM, IN A SANDBOX (cutbox-rows.mjs): the forced cells as the released guide's own fill.sh prints them over the translation 705da14649f7b2d3… (all of the seat's roots in one cut). By AI agents, Wed Nov 11 2026. No macro, syntax, notation, axiom, sorry.
-/
import Derived.Test.YtiiflgihjnlmcaaChecked
import GoSem.Claim
import GoSem.ClaimJoined
import GoSem.ClaimMapViews
import Derived.JoinedTies
import Derived.KernelRfl
namespace Go.Proofs.Ytiiflgihjnlmcaa
/- THE CELL 'sum', in the pinned program and in every row, IS THE sha256 OF THE DUMP (.gsa) THAT YtiiflgihjnlmcaaProg.lean LOADS. Nothing in Lean hashes anything: it is a label: what it is worth is what the hold of that sum in a sandbox is worth. -/
noncomputable def Try.pinned : Pinned := { name := "ytiiflgihjnlmcaa", sum := "705da14649f7b2d3ad66cda6f406f5c682c99fcccf2a5ac885e332859aa01c28", checked := Try.checked }
namespace Rows
def none {H : Type} : Left H := { results := [], args := [] }

/-- 'tripwirelaw07.RulesDoes': WHATEVER THE INPUT: true; the input reads as it did. -/
def rulesDoesSpec : ChangeSpec := { name := "rulesDoes", fn := fun _ => fun
  | [d1, d2, d3, d4] => { results := [.lit (.bool true)], args := [d1, d2, d3, d4] }
  | _ => none }
def rulesDoesRow : OpenClaim := { program := "ytiiflgihjnlmcaa", sum := "705da14649f7b2d3ad66cda6f406f5c682c99fcccf2a5ac885e332859aa01c28", func := "tripwire/tripwirelaw07.RulesDoes", spec := "rulesDoes", apart := false }
def RulesDoesSaid : Prop := rulesDoesRow.holds Try.pinned (OpenSpec.ofChange rulesDoesSpec)

/-- ITS FALSE NEIGHBOUR: 'it returns false'. Refute it at one input. -/
def rulesDoesWrong : ChangeSpec := { name := "rulesDoes", fn := fun _ => fun
  | [d1, d2, d3, d4] => { results := [.lit (.bool false)], args := [d1, d2, d3, d4] }
  | _ => none }
def RulesDoesWrongFalsely : Prop := rulesDoesRow.holds Try.pinned (OpenSpec.ofChange rulesDoesWrong)

/-- 'tripwirelaw07.RulesRound': WHATEVER THE INPUT: true; the input reads as it did. -/
def rulesRoundSpec : ChangeSpec := { name := "rulesRound", fn := fun _ => fun
  | [d1, d2, d3, d4] => { results := [.lit (.bool true)], args := [d1, d2, d3, d4] }
  | _ => none }
def rulesRoundRow : OpenClaim := { program := "ytiiflgihjnlmcaa", sum := "705da14649f7b2d3ad66cda6f406f5c682c99fcccf2a5ac885e332859aa01c28", func := "tripwire/tripwirelaw07.RulesRound", spec := "rulesRound", apart := false }
def RulesRoundSaid : Prop := rulesRoundRow.holds Try.pinned (OpenSpec.ofChange rulesRoundSpec)

/-- ITS FALSE NEIGHBOUR: 'it returns false'. Refute it at one input. -/
def rulesRoundWrong : ChangeSpec := { name := "rulesRound", fn := fun _ => fun
  | [d1, d2, d3, d4] => { results := [.lit (.bool false)], args := [d1, d2, d3, d4] }
  | _ => none }
def RulesRoundWrongFalsely : Prop := rulesRoundRow.holds Try.pinned (OpenSpec.ofChange rulesRoundWrong)

/-- 'tripwirelaw07.RulesLess': WHATEVER THE INPUT: true; the input reads as it did. -/
def rulesLessSpec : ChangeSpec := { name := "rulesLess", fn := fun _ => fun
  | [d1, d2, d3, d4, d5] => { results := [.lit (.bool true)], args := [d1, d2, d3, d4, d5] }
  | _ => none }
def rulesLessRow : OpenClaim := { program := "ytiiflgihjnlmcaa", sum := "705da14649f7b2d3ad66cda6f406f5c682c99fcccf2a5ac885e332859aa01c28", func := "tripwire/tripwirelaw07.RulesLess", spec := "rulesLess", apart := false }
def RulesLessSaid : Prop := rulesLessRow.holds Try.pinned (OpenSpec.ofChange rulesLessSpec)

/-- ITS FALSE NEIGHBOUR: 'it returns false'. Refute it at one input. -/
def rulesLessWrong : ChangeSpec := { name := "rulesLess", fn := fun _ => fun
  | [d1, d2, d3, d4, d5] => { results := [.lit (.bool false)], args := [d1, d2, d3, d4, d5] }
  | _ => none }
def RulesLessWrongFalsely : Prop := rulesLessRow.holds Try.pinned (OpenSpec.ofChange rulesLessWrong)

/-- 'tripwirelaw22.QuotaDoes': WHATEVER THE INPUT: true; the input reads as it did. -/
def quotaDoesSpec : ChangeSpec := { name := "quotaDoes", fn := fun _ => fun
  | [d1, d2] => { results := [.lit (.bool true)], args := [d1, d2] }
  | _ => none }
def quotaDoesRow : OpenClaim := { program := "ytiiflgihjnlmcaa", sum := "705da14649f7b2d3ad66cda6f406f5c682c99fcccf2a5ac885e332859aa01c28", func := "tripwire/tripwirelaw22.QuotaDoes", spec := "quotaDoes", unfollowed := true, recurses := true, apart := false }
def QuotaDoesSaid : Prop := quotaDoesRow.holds Try.pinned (OpenSpec.ofChange quotaDoesSpec)

/-- ITS FALSE NEIGHBOUR: 'it returns false'. Refute it at one input. -/
def quotaDoesWrong : ChangeSpec := { name := "quotaDoes", fn := fun _ => fun
  | [d1, d2] => { results := [.lit (.bool false)], args := [d1, d2] }
  | _ => none }
def QuotaDoesWrongFalsely : Prop := quotaDoesRow.holds Try.pinned (OpenSpec.ofChange quotaDoesWrong)

/-- 'tripwirelaw22.QuotaNever': WHATEVER THE INPUT: true; the input reads as it did. -/
def quotaNeverSpec : ChangeSpec := { name := "quotaNever", fn := fun _ => fun
  | [d1, d2] => { results := [.lit (.bool true)], args := [d1, d2] }
  | _ => none }
def quotaNeverRow : OpenClaim := { program := "ytiiflgihjnlmcaa", sum := "705da14649f7b2d3ad66cda6f406f5c682c99fcccf2a5ac885e332859aa01c28", func := "tripwire/tripwirelaw22.QuotaNever", spec := "quotaNever", unfollowed := true, recurses := true, apart := false }
def QuotaNeverSaid : Prop := quotaNeverRow.holds Try.pinned (OpenSpec.ofChange quotaNeverSpec)

/-- ITS FALSE NEIGHBOUR: 'it returns false'. Refute it at one input. -/
def quotaNeverWrong : ChangeSpec := { name := "quotaNever", fn := fun _ => fun
  | [d1, d2] => { results := [.lit (.bool false)], args := [d1, d2] }
  | _ => none }
def QuotaNeverWrongFalsely : Prop := quotaNeverRow.holds Try.pinned (OpenSpec.ofChange quotaNeverWrong)

/-- 'tripwirelaw04.SlotsRow': WHATEVER THE INPUT: true; the input reads as it did. -/
def slotsRowSpec : ChangeSpec := { name := "slotsRow", fn := fun _ => fun
  | [d1, d2] => { results := [.lit (.bool true)], args := [d1, d2] }
  | _ => none }
def slotsRowRow : OpenClaim := { program := "ytiiflgihjnlmcaa", sum := "705da14649f7b2d3ad66cda6f406f5c682c99fcccf2a5ac885e332859aa01c28", func := "tripwire/tripwirelaw04.SlotsRow", spec := "slotsRow", apart := false }
def SlotsRowSaid : Prop := slotsRowRow.holds Try.pinned (OpenSpec.ofChange slotsRowSpec)

/-- ITS FALSE NEIGHBOUR: 'it returns false'. Refute it at one input. -/
def slotsRowWrong : ChangeSpec := { name := "slotsRow", fn := fun _ => fun
  | [d1, d2] => { results := [.lit (.bool false)], args := [d1, d2] }
  | _ => none }
def SlotsRowWrongFalsely : Prop := slotsRowRow.holds Try.pinned (OpenSpec.ofChange slotsRowWrong)

/-- 'tripwirelaw10.SnapFolds': WHATEVER THE INPUT: true; the input reads as it did. -/
def snapFoldsSpec : ChangeSpec := { name := "snapFolds", fn := fun _ => fun
  | [d1, d2, d3, d4] => { results := [.lit (.bool true)], args := [d1, d2, d3, d4] }
  | _ => none }
def snapFoldsRow : OpenClaim := { program := "ytiiflgihjnlmcaa", sum := "705da14649f7b2d3ad66cda6f406f5c682c99fcccf2a5ac885e332859aa01c28", func := "tripwire/tripwirelaw10.SnapFolds", spec := "snapFolds", unfollowed := true, recurses := true, apart := false }
def SnapFoldsSaid : Prop := snapFoldsRow.holds Try.pinned (OpenSpec.ofChange snapFoldsSpec)

/-- ITS FALSE NEIGHBOUR: 'it returns false'. Refute it at one input. -/
def snapFoldsWrong : ChangeSpec := { name := "snapFolds", fn := fun _ => fun
  | [d1, d2, d3, d4] => { results := [.lit (.bool false)], args := [d1, d2, d3, d4] }
  | _ => none }
def SnapFoldsWrongFalsely : Prop := snapFoldsRow.holds Try.pinned (OpenSpec.ofChange snapFoldsWrong)

/-- 'tripwirelaw10.SnapFeeds': WHATEVER THE INPUT: true; the input reads as it did. -/
def snapFeedsSpec : ChangeSpec := { name := "snapFeeds", fn := fun _ => fun
  | [d1, d2, d3, d4] => { results := [.lit (.bool true)], args := [d1, d2, d3, d4] }
  | _ => none }
def snapFeedsRow : OpenClaim := { program := "ytiiflgihjnlmcaa", sum := "705da14649f7b2d3ad66cda6f406f5c682c99fcccf2a5ac885e332859aa01c28", func := "tripwire/tripwirelaw10.SnapFeeds", spec := "snapFeeds", unfollowed := true, recurses := true, apart := false }
def SnapFeedsSaid : Prop := snapFeedsRow.holds Try.pinned (OpenSpec.ofChange snapFeedsSpec)

/-- ITS FALSE NEIGHBOUR: 'it returns false'. Refute it at one input. -/
def snapFeedsWrong : ChangeSpec := { name := "snapFeeds", fn := fun _ => fun
  | [d1, d2, d3, d4] => { results := [.lit (.bool false)], args := [d1, d2, d3, d4] }
  | _ => none }
def SnapFeedsWrongFalsely : Prop := snapFeedsRow.holds Try.pinned (OpenSpec.ofChange snapFeedsWrong)

/-- 'tripwirelaw10.SnapParts': WHATEVER THE INPUT: true; the input reads as it did. -/
def snapPartsSpec : ChangeSpec := { name := "snapParts", fn := fun _ => fun
  | [d1, d2, d3] => { results := [.lit (.bool true)], args := [d1, d2, d3] }
  | _ => none }
def snapPartsRow : OpenClaim := { program := "ytiiflgihjnlmcaa", sum := "705da14649f7b2d3ad66cda6f406f5c682c99fcccf2a5ac885e332859aa01c28", func := "tripwire/tripwirelaw10.SnapParts", spec := "snapParts", unfollowed := true, recurses := true, apart := false }
def SnapPartsSaid : Prop := snapPartsRow.holds Try.pinned (OpenSpec.ofChange snapPartsSpec)

/-- ITS FALSE NEIGHBOUR: 'it returns false'. Refute it at one input. -/
def snapPartsWrong : ChangeSpec := { name := "snapParts", fn := fun _ => fun
  | [d1, d2, d3] => { results := [.lit (.bool false)], args := [d1, d2, d3] }
  | _ => none }
def SnapPartsWrongFalsely : Prop := snapPartsRow.holds Try.pinned (OpenSpec.ofChange snapPartsWrong)

/-- 'tripwirelaw04.SlotsLinks': WHATEVER THE INPUT: true; the input reads as it did. -/
def slotsLinksSpec : ChangeSpec := { name := "slotsLinks", fn := fun _ => fun
  | [d1, d2, d3] => { results := [.lit (.bool true)], args := [d1, d2, d3] }
  | _ => none }
def slotsLinksRow : OpenClaim := { program := "ytiiflgihjnlmcaa", sum := "705da14649f7b2d3ad66cda6f406f5c682c99fcccf2a5ac885e332859aa01c28", func := "tripwire/tripwirelaw04.SlotsLinks", spec := "slotsLinks", unfollowed := true, recurses := true, apart := false }
def SlotsLinksSaid : Prop := slotsLinksRow.holds Try.pinned (OpenSpec.ofChange slotsLinksSpec)

/-- ITS FALSE NEIGHBOUR: 'it returns false'. Refute it at one input. -/
def slotsLinksWrong : ChangeSpec := { name := "slotsLinks", fn := fun _ => fun
  | [d1, d2, d3] => { results := [.lit (.bool false)], args := [d1, d2, d3] }
  | _ => none }
def SlotsLinksWrongFalsely : Prop := slotsLinksRow.holds Try.pinned (OpenSpec.ofChange slotsLinksWrong)

/-- 'tripwirelaw04.SlotsDoes': WHATEVER THE INPUT: true; the input reads as it did. -/
def slotsDoesSpec : ChangeSpec := { name := "slotsDoes", fn := fun _ => fun
  | [d1, d2, d3] => { results := [.lit (.bool true)], args := [d1, d2, d3] }
  | _ => none }
def slotsDoesRow : OpenClaim := { program := "ytiiflgihjnlmcaa", sum := "705da14649f7b2d3ad66cda6f406f5c682c99fcccf2a5ac885e332859aa01c28", func := "tripwire/tripwirelaw04.SlotsDoes", spec := "slotsDoes", unfollowed := true, recurses := true, apart := false }
def SlotsDoesSaid : Prop := slotsDoesRow.holds Try.pinned (OpenSpec.ofChange slotsDoesSpec)

/-- ITS FALSE NEIGHBOUR: 'it returns false'. Refute it at one input. -/
def slotsDoesWrong : ChangeSpec := { name := "slotsDoes", fn := fun _ => fun
  | [d1, d2, d3] => { results := [.lit (.bool false)], args := [d1, d2, d3] }
  | _ => none }
def SlotsDoesWrongFalsely : Prop := slotsDoesRow.holds Try.pinned (OpenSpec.ofChange slotsDoesWrong)

/- THE SECOND FORM. 'bulk': how many values and letters a reading holds, each counted each time it is reached (what is shared counts as often as it is met; a slice's spare places count too). A statement '..UptoSaid' is the law's where the arguments, and the package variables that the reading takes, are together of bulk at most 1048576: NARROWER than '..Said'. Prove '..Said' where nothing that the law and all that it calls make is longer than what came in: it says more and counts as full. Else prove '..UptoSaid'. A law counts once. -/
mutual
def uptoBulk {H : Type} : DataW H → Nat
  | .lit (.string bytes) => bytes.length + 1
  | .lit _ => 1
  | .nil => 1
  | .ptr d => uptoBulk d + 1
  | .slice elems spare => uptoBulkAll elems + uptoBulkAll spare + 1
  | .agg parts => uptoBulkAll parts + 1
  | .iface _ d => uptoBulk d + 1
  | .map entries => uptoBulkEntries entries + 1
  | .held _ => 1
def uptoBulkAll {H : Type} : List (DataW H) → Nat
  | [] => 0
  | d :: r => uptoBulk d + uptoBulkAll r
def uptoBulkEntries {H : Type} : List (Lit × DataW H) → Nat
  | [] => 0
  | x :: r => uptoBulkEntry x + uptoBulkEntries r
def uptoBulkEntry {H : Type} : Lit × DataW H → Nat
  | (.string bytes, d) => bytes.length + uptoBulk d + 1
  | (_, d) => uptoBulk d + 1
 end
def uptoSmall : (H : Type) → List (DataW H) → Bool := fun _ ds => decide (uptoBulkAll ds ≤ 1048576)
def OpenSpec.upto (s : _root_.Go.ChangeSpec) : _root_.Go.OpenSpec := { _root_.Go.OpenSpec.ofChange s with cond := some uptoSmall }

/-- 'tripwirelaw07.RulesDoes', WHERE WHAT IT READS IS OF BULK AT MOST 1048576: true; the input reads as it did. -/
def rulesDoesUptoRow : OpenClaim := { program := "ytiiflgihjnlmcaa", sum := "705da14649f7b2d3ad66cda6f406f5c682c99fcccf2a5ac885e332859aa01c28", func := "tripwire/tripwirelaw07.RulesDoes", spec := "rulesDoes", apart := false, narrowed := true }
def RulesDoesUptoSaid : Prop := rulesDoesUptoRow.holds Try.pinned (OpenSpec.upto rulesDoesSpec)

/-- 'tripwirelaw07.RulesRound', WHERE WHAT IT READS IS OF BULK AT MOST 1048576: true; the input reads as it did. -/
def rulesRoundUptoRow : OpenClaim := { program := "ytiiflgihjnlmcaa", sum := "705da14649f7b2d3ad66cda6f406f5c682c99fcccf2a5ac885e332859aa01c28", func := "tripwire/tripwirelaw07.RulesRound", spec := "rulesRound", apart := false, narrowed := true }
def RulesRoundUptoSaid : Prop := rulesRoundUptoRow.holds Try.pinned (OpenSpec.upto rulesRoundSpec)

/-- 'tripwirelaw07.RulesLess', WHERE WHAT IT READS IS OF BULK AT MOST 1048576: true; the input reads as it did. -/
def rulesLessUptoRow : OpenClaim := { program := "ytiiflgihjnlmcaa", sum := "705da14649f7b2d3ad66cda6f406f5c682c99fcccf2a5ac885e332859aa01c28", func := "tripwire/tripwirelaw07.RulesLess", spec := "rulesLess", apart := false, narrowed := true }
def RulesLessUptoSaid : Prop := rulesLessUptoRow.holds Try.pinned (OpenSpec.upto rulesLessSpec)

/-- 'tripwirelaw22.QuotaDoes', WHERE WHAT IT READS IS OF BULK AT MOST 1048576: true; the input reads as it did. -/
def quotaDoesUptoRow : OpenClaim := { program := "ytiiflgihjnlmcaa", sum := "705da14649f7b2d3ad66cda6f406f5c682c99fcccf2a5ac885e332859aa01c28", func := "tripwire/tripwirelaw22.QuotaDoes", spec := "quotaDoes", unfollowed := true, recurses := true, apart := false, narrowed := true }
def QuotaDoesUptoSaid : Prop := quotaDoesUptoRow.holds Try.pinned (OpenSpec.upto quotaDoesSpec)

/-- 'tripwirelaw22.QuotaNever', WHERE WHAT IT READS IS OF BULK AT MOST 1048576: true; the input reads as it did. -/
def quotaNeverUptoRow : OpenClaim := { program := "ytiiflgihjnlmcaa", sum := "705da14649f7b2d3ad66cda6f406f5c682c99fcccf2a5ac885e332859aa01c28", func := "tripwire/tripwirelaw22.QuotaNever", spec := "quotaNever", unfollowed := true, recurses := true, apart := false, narrowed := true }
def QuotaNeverUptoSaid : Prop := quotaNeverUptoRow.holds Try.pinned (OpenSpec.upto quotaNeverSpec)

/-- 'tripwirelaw04.SlotsRow', WHERE WHAT IT READS IS OF BULK AT MOST 1048576: true; the input reads as it did. -/
def slotsRowUptoRow : OpenClaim := { program := "ytiiflgihjnlmcaa", sum := "705da14649f7b2d3ad66cda6f406f5c682c99fcccf2a5ac885e332859aa01c28", func := "tripwire/tripwirelaw04.SlotsRow", spec := "slotsRow", apart := false, narrowed := true }
def SlotsRowUptoSaid : Prop := slotsRowUptoRow.holds Try.pinned (OpenSpec.upto slotsRowSpec)

/-- 'tripwirelaw10.SnapFolds', WHERE WHAT IT READS IS OF BULK AT MOST 1048576: true; the input reads as it did. -/
def snapFoldsUptoRow : OpenClaim := { program := "ytiiflgihjnlmcaa", sum := "705da14649f7b2d3ad66cda6f406f5c682c99fcccf2a5ac885e332859aa01c28", func := "tripwire/tripwirelaw10.SnapFolds", spec := "snapFolds", unfollowed := true, recurses := true, apart := false, narrowed := true }
def SnapFoldsUptoSaid : Prop := snapFoldsUptoRow.holds Try.pinned (OpenSpec.upto snapFoldsSpec)

/-- 'tripwirelaw10.SnapFeeds', WHERE WHAT IT READS IS OF BULK AT MOST 1048576: true; the input reads as it did. -/
def snapFeedsUptoRow : OpenClaim := { program := "ytiiflgihjnlmcaa", sum := "705da14649f7b2d3ad66cda6f406f5c682c99fcccf2a5ac885e332859aa01c28", func := "tripwire/tripwirelaw10.SnapFeeds", spec := "snapFeeds", unfollowed := true, recurses := true, apart := false, narrowed := true }
def SnapFeedsUptoSaid : Prop := snapFeedsUptoRow.holds Try.pinned (OpenSpec.upto snapFeedsSpec)

/-- 'tripwirelaw10.SnapParts', WHERE WHAT IT READS IS OF BULK AT MOST 1048576: true; the input reads as it did. -/
def snapPartsUptoRow : OpenClaim := { program := "ytiiflgihjnlmcaa", sum := "705da14649f7b2d3ad66cda6f406f5c682c99fcccf2a5ac885e332859aa01c28", func := "tripwire/tripwirelaw10.SnapParts", spec := "snapParts", unfollowed := true, recurses := true, apart := false, narrowed := true }
def SnapPartsUptoSaid : Prop := snapPartsUptoRow.holds Try.pinned (OpenSpec.upto snapPartsSpec)

/-- 'tripwirelaw04.SlotsLinks', WHERE WHAT IT READS IS OF BULK AT MOST 1048576: true; the input reads as it did. -/
def slotsLinksUptoRow : OpenClaim := { program := "ytiiflgihjnlmcaa", sum := "705da14649f7b2d3ad66cda6f406f5c682c99fcccf2a5ac885e332859aa01c28", func := "tripwire/tripwirelaw04.SlotsLinks", spec := "slotsLinks", unfollowed := true, recurses := true, apart := false, narrowed := true }
def SlotsLinksUptoSaid : Prop := slotsLinksUptoRow.holds Try.pinned (OpenSpec.upto slotsLinksSpec)

/-- 'tripwirelaw04.SlotsDoes', WHERE WHAT IT READS IS OF BULK AT MOST 1048576: true; the input reads as it did. -/
def slotsDoesUptoRow : OpenClaim := { program := "ytiiflgihjnlmcaa", sum := "705da14649f7b2d3ad66cda6f406f5c682c99fcccf2a5ac885e332859aa01c28", func := "tripwire/tripwirelaw04.SlotsDoes", spec := "slotsDoes", unfollowed := true, recurses := true, apart := false, narrowed := true }
def SlotsDoesUptoSaid : Prop := slotsDoesUptoRow.holds Try.pinned (OpenSpec.upto slotsDoesSpec)

end Rows
end Go.Proofs.Ytiiflgihjnlmcaa
