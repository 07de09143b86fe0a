/-
  No cell of these rows narrows 'for every input' (looked for: loops, veiled, ifaces, maps, wideKeys, modest, calm, conditions, laid).
  DERIVED. THE GIVEN ROWS OF THIS SEAT. 12 by the template 'for every input the law returns true; each argument reads behind the call as it read before'; 0 by the template 'total and deterministic' (their statements: YtfeknndjngaieaaTotals.lean).
  GIVEN WITH THE SEED: the statements are not yours to turn. If you find one false, say at which input.
  Laid BY PROGRAM, IN A SANDBOX (cutbox-rows.mjs): the forced cells as the released guide's own fill.sh prints them over the translation 7b8a771a3c01db9a… (all of the seat's roots in one cut). By AI agents, Wed Nov 11 2026. No macro, syntax, notation, axiom, sorry.
-/
import Derived.Test.YtfeknndjngaieaaChecked
import GoSem.Claim
import GoSem.ClaimJoined
import GoSem.ClaimMapViews
import Derived.JoinedTies
import Derived.KernelRfl
namespace Go.Proofs.Ytfeknndjngaieaa
/- THE CELL 'sum', in the pinned program and in every row, IS THE sha256 OF THE DUMP (.gsa) THAT YtfeknndjngaieaaProg.lean LOADS. Nothing in Lean hashes anything: it is a label: what it is worth is what the hold of that sum in a sandbox is worth. -/
noncomputable def Try.pinned : Pinned := { name := "ytfeknndjngaieaa", sum := "7b8a771a3c01db9a1eaf2ed79b0db3ee0e5a7073c3c928644ba37f29f3e7acb6", checked := Try.checked }
namespace Rows
def none {H : Type} : Left H := { results := [], args := [] }

/-- 'laws.FnExactLinkMust': WHATEVER THE INPUT: true; the input reads as it did. -/
def fnExactLinkMustSpec : ChangeSpec := { name := "fnExactLinkMust", fn := fun _ => fun
  | [d1, d2] => { results := [.lit (.bool true)], args := [d1, d2] }
  | _ => none }
def fnExactLinkMustRow : OpenClaim := { program := "ytfeknndjngaieaa", sum := "7b8a771a3c01db9a1eaf2ed79b0db3ee0e5a7073c3c928644ba37f29f3e7acb6", func := "loop.example/laplink/laws.FnExactLinkMust", spec := "fnExactLinkMust", apart := false }
def FnExactLinkMustSaid : Prop := fnExactLinkMustRow.holds Try.pinned (OpenSpec.ofChange fnExactLinkMustSpec)

/-- ITS FALSE NEIGHBOUR: 'it returns false'. Refute it at one input. -/
def fnExactLinkMustWrong : ChangeSpec := { name := "fnExactLinkMust", fn := fun _ => fun
  | [d1, d2] => { results := [.lit (.bool false)], args := [d1, d2] }
  | _ => none }
def FnExactLinkMustWrongFalsely : Prop := fnExactLinkMustRow.holds Try.pinned (OpenSpec.ofChange fnExactLinkMustWrong)

/-- 'laws.FnExactLinkCraftOk': WHATEVER THE INPUT: true; the input reads as it did. -/
def fnExactLinkCraftOkSpec : ChangeSpec := { name := "fnExactLinkCraftOk", fn := fun _ => fun
  | [d1, d2] => { results := [.lit (.bool true)], args := [d1, d2] }
  | _ => none }
def fnExactLinkCraftOkRow : OpenClaim := { program := "ytfeknndjngaieaa", sum := "7b8a771a3c01db9a1eaf2ed79b0db3ee0e5a7073c3c928644ba37f29f3e7acb6", func := "loop.example/laplink/laws.FnExactLinkCraftOk", spec := "fnExactLinkCraftOk", apart := false }
def FnExactLinkCraftOkSaid : Prop := fnExactLinkCraftOkRow.holds Try.pinned (OpenSpec.ofChange fnExactLinkCraftOkSpec)

/-- ITS FALSE NEIGHBOUR: 'it returns false'. Refute it at one input. -/
def fnExactLinkCraftOkWrong : ChangeSpec := { name := "fnExactLinkCraftOk", fn := fun _ => fun
  | [d1, d2] => { results := [.lit (.bool false)], args := [d1, d2] }
  | _ => none }
def FnExactLinkCraftOkWrongFalsely : Prop := fnExactLinkCraftOkRow.holds Try.pinned (OpenSpec.ofChange fnExactLinkCraftOkWrong)

/-- 'laws.FnExactLinkTube': WHATEVER THE INPUT: true; the input reads as it did. -/
def fnExactLinkTubeSpec : ChangeSpec := { name := "fnExactLinkTube", fn := fun _ => fun
  | [d1, d2, d3] => { results := [.lit (.bool true)], args := [d1, d2, d3] }
  | _ => none }
def fnExactLinkTubeRow : OpenClaim := { program := "ytfeknndjngaieaa", sum := "7b8a771a3c01db9a1eaf2ed79b0db3ee0e5a7073c3c928644ba37f29f3e7acb6", func := "loop.example/laplink/laws.FnExactLinkTube", spec := "fnExactLinkTube", apart := false }
def FnExactLinkTubeSaid : Prop := fnExactLinkTubeRow.holds Try.pinned (OpenSpec.ofChange fnExactLinkTubeSpec)

/-- ITS FALSE NEIGHBOUR: 'it returns false'. Refute it at one input. -/
def fnExactLinkTubeWrong : ChangeSpec := { name := "fnExactLinkTube", fn := fun _ => fun
  | [d1, d2, d3] => { results := [.lit (.bool false)], args := [d1, d2, d3] }
  | _ => none }
def FnExactLinkTubeWrongFalsely : Prop := fnExactLinkTubeRow.holds Try.pinned (OpenSpec.ofChange fnExactLinkTubeWrong)

/-- 'laws.FnExactLinkHear': WHATEVER THE INPUT: true; the input reads as it did. -/
def fnExactLinkHearSpec : ChangeSpec := { name := "fnExactLinkHear", fn := fun _ => fun
  | [d1, d2] => { results := [.lit (.bool true)], args := [d1, d2] }
  | _ => none }
def fnExactLinkHearRow : OpenClaim := { program := "ytfeknndjngaieaa", sum := "7b8a771a3c01db9a1eaf2ed79b0db3ee0e5a7073c3c928644ba37f29f3e7acb6", func := "loop.example/laplink/laws.FnExactLinkHear", spec := "fnExactLinkHear", apart := false }
def FnExactLinkHearSaid : Prop := fnExactLinkHearRow.holds Try.pinned (OpenSpec.ofChange fnExactLinkHearSpec)

/-- ITS FALSE NEIGHBOUR: 'it returns false'. Refute it at one input. -/
def fnExactLinkHearWrong : ChangeSpec := { name := "fnExactLinkHear", fn := fun _ => fun
  | [d1, d2] => { results := [.lit (.bool false)], args := [d1, d2] }
  | _ => none }
def FnExactLinkHearWrongFalsely : Prop := fnExactLinkHearRow.holds Try.pinned (OpenSpec.ofChange fnExactLinkHearWrong)

/-- 'laws.FnFlyRest': WHATEVER THE INPUT: true; the input reads as it did. -/
def fnFlyRestSpec : ChangeSpec := { name := "fnFlyRest", fn := fun _ => fun
  | [d] => { results := [.lit (.bool true)], args := [d] }
  | _ => none }
def fnFlyRestRow : OpenClaim := { program := "ytfeknndjngaieaa", sum := "7b8a771a3c01db9a1eaf2ed79b0db3ee0e5a7073c3c928644ba37f29f3e7acb6", func := "loop.example/laplink/laws.FnFlyRest", spec := "fnFlyRest", apart := false }
def FnFlyRestSaid : Prop := fnFlyRestRow.holds Try.pinned (OpenSpec.ofChange fnFlyRestSpec)

/-- ITS FALSE NEIGHBOUR: 'it returns false'. Refute it at one input. -/
def fnFlyRestWrong : ChangeSpec := { name := "fnFlyRest", fn := fun _ => fun
  | [d] => { results := [.lit (.bool false)], args := [d] }
  | _ => none }
def FnFlyRestWrongFalsely : Prop := fnFlyRestRow.holds Try.pinned (OpenSpec.ofChange fnFlyRestWrong)

/-- 'laws.FnFlyTop': WHATEVER THE INPUT: true; the input reads as it did. -/
def fnFlyTopSpec : ChangeSpec := { name := "fnFlyTop", fn := fun _ => fun
  | [d] => { results := [.lit (.bool true)], args := [d] }
  | _ => none }
def fnFlyTopRow : OpenClaim := { program := "ytfeknndjngaieaa", sum := "7b8a771a3c01db9a1eaf2ed79b0db3ee0e5a7073c3c928644ba37f29f3e7acb6", func := "loop.example/laplink/laws.FnFlyTop", spec := "fnFlyTop", apart := false }
def FnFlyTopSaid : Prop := fnFlyTopRow.holds Try.pinned (OpenSpec.ofChange fnFlyTopSpec)

/-- ITS FALSE NEIGHBOUR: 'it returns false'. Refute it at one input. -/
def fnFlyTopWrong : ChangeSpec := { name := "fnFlyTop", fn := fun _ => fun
  | [d] => { results := [.lit (.bool false)], args := [d] }
  | _ => none }
def FnFlyTopWrongFalsely : Prop := fnFlyTopRow.holds Try.pinned (OpenSpec.ofChange fnFlyTopWrong)

/-- 'laws.FnExactLinkNew': WHATEVER THE INPUT: true; the input reads as it did. -/
def fnExactLinkNewSpec : ChangeSpec := { name := "fnExactLinkNew", fn := fun _ => fun
  | [] => { results := [.lit (.bool true)], args := [] }
  | _ => none }
def fnExactLinkNewRow : OpenClaim := { program := "ytfeknndjngaieaa", sum := "7b8a771a3c01db9a1eaf2ed79b0db3ee0e5a7073c3c928644ba37f29f3e7acb6", func := "loop.example/laplink/laws.FnExactLinkNew", spec := "fnExactLinkNew", apart := false }
def FnExactLinkNewSaid : Prop := fnExactLinkNewRow.holds Try.pinned (OpenSpec.ofChange fnExactLinkNewSpec)

/-- ITS FALSE NEIGHBOUR: 'it returns false'. Refute it at one input. -/
def fnExactLinkNewWrong : ChangeSpec := { name := "fnExactLinkNew", fn := fun _ => fun
  | [] => { results := [.lit (.bool false)], args := [] }
  | _ => none }
def FnExactLinkNewWrongFalsely : Prop := fnExactLinkNewRow.holds Try.pinned (OpenSpec.ofChange fnExactLinkNewWrong)

/-- 'laws.FnExactLinkMove': WHATEVER THE INPUT: true; the input reads as it did. -/
def fnExactLinkMoveSpec : ChangeSpec := { name := "fnExactLinkMove", fn := fun _ => fun
  | [d1, d2] => { results := [.lit (.bool true)], args := [d1, d2] }
  | _ => none }
def fnExactLinkMoveRow : OpenClaim := { program := "ytfeknndjngaieaa", sum := "7b8a771a3c01db9a1eaf2ed79b0db3ee0e5a7073c3c928644ba37f29f3e7acb6", func := "loop.example/laplink/laws.FnExactLinkMove", spec := "fnExactLinkMove", apart := false }
def FnExactLinkMoveSaid : Prop := fnExactLinkMoveRow.holds Try.pinned (OpenSpec.ofChange fnExactLinkMoveSpec)

/-- ITS FALSE NEIGHBOUR: 'it returns false'. Refute it at one input. -/
def fnExactLinkMoveWrong : ChangeSpec := { name := "fnExactLinkMove", fn := fun _ => fun
  | [d1, d2] => { results := [.lit (.bool false)], args := [d1, d2] }
  | _ => none }
def FnExactLinkMoveWrongFalsely : Prop := fnExactLinkMoveRow.holds Try.pinned (OpenSpec.ofChange fnExactLinkMoveWrong)

/-- 'laws.FnExactLinkBookOk': WHATEVER THE INPUT: true; the input reads as it did. -/
def fnExactLinkBookOkSpec : ChangeSpec := { name := "fnExactLinkBookOk", fn := fun _ => fun
  | [d1, d2] => { results := [.lit (.bool true)], args := [d1, d2] }
  | _ => none }
def fnExactLinkBookOkRow : OpenClaim := { program := "ytfeknndjngaieaa", sum := "7b8a771a3c01db9a1eaf2ed79b0db3ee0e5a7073c3c928644ba37f29f3e7acb6", func := "loop.example/laplink/laws.FnExactLinkBookOk", spec := "fnExactLinkBookOk", apart := false }
def FnExactLinkBookOkSaid : Prop := fnExactLinkBookOkRow.holds Try.pinned (OpenSpec.ofChange fnExactLinkBookOkSpec)

/-- ITS FALSE NEIGHBOUR: 'it returns false'. Refute it at one input. -/
def fnExactLinkBookOkWrong : ChangeSpec := { name := "fnExactLinkBookOk", fn := fun _ => fun
  | [d1, d2] => { results := [.lit (.bool false)], args := [d1, d2] }
  | _ => none }
def FnExactLinkBookOkWrongFalsely : Prop := fnExactLinkBookOkRow.holds Try.pinned (OpenSpec.ofChange fnExactLinkBookOkWrong)

/-- 'laws.FnExactLinkFree': WHATEVER THE INPUT: true; the input reads as it did. -/
def fnExactLinkFreeSpec : ChangeSpec := { name := "fnExactLinkFree", fn := fun _ => fun
  | [d1, d2, d3, d4] => { results := [.lit (.bool true)], args := [d1, d2, d3, d4] }
  | _ => none }
def fnExactLinkFreeRow : OpenClaim := { program := "ytfeknndjngaieaa", sum := "7b8a771a3c01db9a1eaf2ed79b0db3ee0e5a7073c3c928644ba37f29f3e7acb6", func := "loop.example/laplink/laws.FnExactLinkFree", spec := "fnExactLinkFree", apart := false }
def FnExactLinkFreeSaid : Prop := fnExactLinkFreeRow.holds Try.pinned (OpenSpec.ofChange fnExactLinkFreeSpec)

/-- ITS FALSE NEIGHBOUR: 'it returns false'. Refute it at one input. -/
def fnExactLinkFreeWrong : ChangeSpec := { name := "fnExactLinkFree", fn := fun _ => fun
  | [d1, d2, d3, d4] => { results := [.lit (.bool false)], args := [d1, d2, d3, d4] }
  | _ => none }
def FnExactLinkFreeWrongFalsely : Prop := fnExactLinkFreeRow.holds Try.pinned (OpenSpec.ofChange fnExactLinkFreeWrong)

/-- 'laws.FnFlyTurn': WHATEVER THE INPUT: true; the input reads as it did. -/
def fnFlyTurnSpec : ChangeSpec := { name := "fnFlyTurn", fn := fun _ => fun
  | [d] => { results := [.lit (.bool true)], args := [d] }
  | _ => none }
def fnFlyTurnRow : OpenClaim := { program := "ytfeknndjngaieaa", sum := "7b8a771a3c01db9a1eaf2ed79b0db3ee0e5a7073c3c928644ba37f29f3e7acb6", func := "loop.example/laplink/laws.FnFlyTurn", spec := "fnFlyTurn", apart := false }
def FnFlyTurnSaid : Prop := fnFlyTurnRow.holds Try.pinned (OpenSpec.ofChange fnFlyTurnSpec)

/-- ITS FALSE NEIGHBOUR: 'it returns false'. Refute it at one input. -/
def fnFlyTurnWrong : ChangeSpec := { name := "fnFlyTurn", fn := fun _ => fun
  | [d] => { results := [.lit (.bool false)], args := [d] }
  | _ => none }
def FnFlyTurnWrongFalsely : Prop := fnFlyTurnRow.holds Try.pinned (OpenSpec.ofChange fnFlyTurnWrong)

/-- 'laws.FnExactLinkPast': WHATEVER THE INPUT: true; the input reads as it did. -/
def fnExactLinkPastSpec : ChangeSpec := { name := "fnExactLinkPast", fn := fun _ => fun
  | [d1, d2] => { results := [.lit (.bool true)], args := [d1, d2] }
  | _ => none }
def fnExactLinkPastRow : OpenClaim := { program := "ytfeknndjngaieaa", sum := "7b8a771a3c01db9a1eaf2ed79b0db3ee0e5a7073c3c928644ba37f29f3e7acb6", func := "loop.example/laplink/laws.FnExactLinkPast", spec := "fnExactLinkPast", apart := false }
def FnExactLinkPastSaid : Prop := fnExactLinkPastRow.holds Try.pinned (OpenSpec.ofChange fnExactLinkPastSpec)

/-- ITS FALSE NEIGHBOUR: 'it returns false'. Refute it at one input. -/
def fnExactLinkPastWrong : ChangeSpec := { name := "fnExactLinkPast", fn := fun _ => fun
  | [d1, d2] => { results := [.lit (.bool false)], args := [d1, d2] }
  | _ => none }
def FnExactLinkPastWrongFalsely : Prop := fnExactLinkPastRow.holds Try.pinned (OpenSpec.ofChange fnExactLinkPastWrong)

/- THE SECOND FORM. 'bulk': how many values and letters a reading holds, each counted each time it is reached (what is shared counts as often as it is met; a slice's spare places count too). A statement '..UptoSaid' is the law's where the arguments, and the package variables that the reading takes, are together of bulk at most 1048576: NARROWER than '..Said'. Prove '..Said' where nothing that the law and all that it calls make is longer than what came in: it says more and counts as full. Else prove '..UptoSaid'. A law counts once. -/
mutual
def uptoBulk {H : Type} : DataW H → Nat
  | .lit (.string bytes) => bytes.length + 1
  | .lit _ => 1
  | .nil => 1
  | .ptr d => uptoBulk d + 1
  | .slice elems spare => uptoBulkAll elems + uptoBulkAll spare + 1
  | .agg parts => uptoBulkAll parts + 1
  | .iface _ d => uptoBulk d + 1
  | .map entries => uptoBulkEntries entries + 1
  | .held _ => 1
def uptoBulkAll {H : Type} : List (DataW H) → Nat
  | [] => 0
  | d :: r => uptoBulk d + uptoBulkAll r
def uptoBulkEntries {H : Type} : List (Lit × DataW H) → Nat
  | [] => 0
  | x :: r => uptoBulkEntry x + uptoBulkEntries r
def uptoBulkEntry {H : Type} : Lit × DataW H → Nat
  | (.string bytes, d) => bytes.length + uptoBulk d + 1
  | (_, d) => uptoBulk d + 1
 end
def uptoSmall : (H : Type) → List (DataW H) → Bool := fun _ ds => decide (uptoBulkAll ds ≤ 1048576)
def OpenSpec.upto (s : _root_.Go.ChangeSpec) : _root_.Go.OpenSpec := { _root_.Go.OpenSpec.ofChange s with cond := some uptoSmall }

/-- 'laws.FnExactLinkMust', WHERE WHAT IT READS IS OF BULK AT MOST 1048576: true; the input reads as it did. -/
def fnExactLinkMustUptoRow : OpenClaim := { program := "ytfeknndjngaieaa", sum := "7b8a771a3c01db9a1eaf2ed79b0db3ee0e5a7073c3c928644ba37f29f3e7acb6", func := "loop.example/laplink/laws.FnExactLinkMust", spec := "fnExactLinkMust", apart := false, narrowed := true }
def FnExactLinkMustUptoSaid : Prop := fnExactLinkMustUptoRow.holds Try.pinned (OpenSpec.upto fnExactLinkMustSpec)

/-- 'laws.FnExactLinkCraftOk', WHERE WHAT IT READS IS OF BULK AT MOST 1048576: true; the input reads as it did. -/
def fnExactLinkCraftOkUptoRow : OpenClaim := { program := "ytfeknndjngaieaa", sum := "7b8a771a3c01db9a1eaf2ed79b0db3ee0e5a7073c3c928644ba37f29f3e7acb6", func := "loop.example/laplink/laws.FnExactLinkCraftOk", spec := "fnExactLinkCraftOk", apart := false, narrowed := true }
def FnExactLinkCraftOkUptoSaid : Prop := fnExactLinkCraftOkUptoRow.holds Try.pinned (OpenSpec.upto fnExactLinkCraftOkSpec)

/-- 'laws.FnExactLinkTube', WHERE WHAT IT READS IS OF BULK AT MOST 1048576: true; the input reads as it did. -/
def fnExactLinkTubeUptoRow : OpenClaim := { program := "ytfeknndjngaieaa", sum := "7b8a771a3c01db9a1eaf2ed79b0db3ee0e5a7073c3c928644ba37f29f3e7acb6", func := "loop.example/laplink/laws.FnExactLinkTube", spec := "fnExactLinkTube", apart := false, narrowed := true }
def FnExactLinkTubeUptoSaid : Prop := fnExactLinkTubeUptoRow.holds Try.pinned (OpenSpec.upto fnExactLinkTubeSpec)

/-- 'laws.FnExactLinkHear', WHERE WHAT IT READS IS OF BULK AT MOST 1048576: true; the input reads as it did. -/
def fnExactLinkHearUptoRow : OpenClaim := { program := "ytfeknndjngaieaa", sum := "7b8a771a3c01db9a1eaf2ed79b0db3ee0e5a7073c3c928644ba37f29f3e7acb6", func := "loop.example/laplink/laws.FnExactLinkHear", spec := "fnExactLinkHear", apart := false, narrowed := true }
def FnExactLinkHearUptoSaid : Prop := fnExactLinkHearUptoRow.holds Try.pinned (OpenSpec.upto fnExactLinkHearSpec)

/-- 'laws.FnFlyRest', WHERE WHAT IT READS IS OF BULK AT MOST 1048576: true; the input reads as it did. -/
def fnFlyRestUptoRow : OpenClaim := { program := "ytfeknndjngaieaa", sum := "7b8a771a3c01db9a1eaf2ed79b0db3ee0e5a7073c3c928644ba37f29f3e7acb6", func := "loop.example/laplink/laws.FnFlyRest", spec := "fnFlyRest", apart := false, narrowed := true }
def FnFlyRestUptoSaid : Prop := fnFlyRestUptoRow.holds Try.pinned (OpenSpec.upto fnFlyRestSpec)

/-- 'laws.FnFlyTop', WHERE WHAT IT READS IS OF BULK AT MOST 1048576: true; the input reads as it did. -/
def fnFlyTopUptoRow : OpenClaim := { program := "ytfeknndjngaieaa", sum := "7b8a771a3c01db9a1eaf2ed79b0db3ee0e5a7073c3c928644ba37f29f3e7acb6", func := "loop.example/laplink/laws.FnFlyTop", spec := "fnFlyTop", apart := false, narrowed := true }
def FnFlyTopUptoSaid : Prop := fnFlyTopUptoRow.holds Try.pinned (OpenSpec.upto fnFlyTopSpec)

/-- 'laws.FnExactLinkNew', WHERE WHAT IT READS IS OF BULK AT MOST 1048576: true; the input reads as it did. -/
def fnExactLinkNewUptoRow : OpenClaim := { program := "ytfeknndjngaieaa", sum := "7b8a771a3c01db9a1eaf2ed79b0db3ee0e5a7073c3c928644ba37f29f3e7acb6", func := "loop.example/laplink/laws.FnExactLinkNew", spec := "fnExactLinkNew", apart := false, narrowed := true }
def FnExactLinkNewUptoSaid : Prop := fnExactLinkNewUptoRow.holds Try.pinned (OpenSpec.upto fnExactLinkNewSpec)

/-- 'laws.FnExactLinkMove', WHERE WHAT IT READS IS OF BULK AT MOST 1048576: true; the input reads as it did. -/
def fnExactLinkMoveUptoRow : OpenClaim := { program := "ytfeknndjngaieaa", sum := "7b8a771a3c01db9a1eaf2ed79b0db3ee0e5a7073c3c928644ba37f29f3e7acb6", func := "loop.example/laplink/laws.FnExactLinkMove", spec := "fnExactLinkMove", apart := false, narrowed := true }
def FnExactLinkMoveUptoSaid : Prop := fnExactLinkMoveUptoRow.holds Try.pinned (OpenSpec.upto fnExactLinkMoveSpec)

/-- 'laws.FnExactLinkBookOk', WHERE WHAT IT READS IS OF BULK AT MOST 1048576: true; the input reads as it did. -/
def fnExactLinkBookOkUptoRow : OpenClaim := { program := "ytfeknndjngaieaa", sum := "7b8a771a3c01db9a1eaf2ed79b0db3ee0e5a7073c3c928644ba37f29f3e7acb6", func := "loop.example/laplink/laws.FnExactLinkBookOk", spec := "fnExactLinkBookOk", apart := false, narrowed := true }
def FnExactLinkBookOkUptoSaid : Prop := fnExactLinkBookOkUptoRow.holds Try.pinned (OpenSpec.upto fnExactLinkBookOkSpec)

/-- 'laws.FnExactLinkFree', WHERE WHAT IT READS IS OF BULK AT MOST 1048576: true; the input reads as it did. -/
def fnExactLinkFreeUptoRow : OpenClaim := { program := "ytfeknndjngaieaa", sum := "7b8a771a3c01db9a1eaf2ed79b0db3ee0e5a7073c3c928644ba37f29f3e7acb6", func := "loop.example/laplink/laws.FnExactLinkFree", spec := "fnExactLinkFree", apart := false, narrowed := true }
def FnExactLinkFreeUptoSaid : Prop := fnExactLinkFreeUptoRow.holds Try.pinned (OpenSpec.upto fnExactLinkFreeSpec)

/-- 'laws.FnFlyTurn', WHERE WHAT IT READS IS OF BULK AT MOST 1048576: true; the input reads as it did. -/
def fnFlyTurnUptoRow : OpenClaim := { program := "ytfeknndjngaieaa", sum := "7b8a771a3c01db9a1eaf2ed79b0db3ee0e5a7073c3c928644ba37f29f3e7acb6", func := "loop.example/laplink/laws.FnFlyTurn", spec := "fnFlyTurn", apart := false, narrowed := true }
def FnFlyTurnUptoSaid : Prop := fnFlyTurnUptoRow.holds Try.pinned (OpenSpec.upto fnFlyTurnSpec)

/-- 'laws.FnExactLinkPast', WHERE WHAT IT READS IS OF BULK AT MOST 1048576: true; the input reads as it did. -/
def fnExactLinkPastUptoRow : OpenClaim := { program := "ytfeknndjngaieaa", sum := "7b8a771a3c01db9a1eaf2ed79b0db3ee0e5a7073c3c928644ba37f29f3e7acb6", func := "loop.example/laplink/laws.FnExactLinkPast", spec := "fnExactLinkPast", apart := false, narrowed := true }
def FnExactLinkPastUptoSaid : Prop := fnExactLinkPastUptoRow.holds Try.pinned (OpenSpec.upto fnExactLinkPastSpec)

end Rows
end Go.Proofs.Ytfeknndjngaieaa
