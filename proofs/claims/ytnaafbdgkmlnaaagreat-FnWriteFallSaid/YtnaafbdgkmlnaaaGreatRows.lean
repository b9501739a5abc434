/-
  No cell of these rows narrows 'for every input' (looked for: loops, veiled, ifaces, maps, wideKeys, modest, calm, conditions, laid).
  DERIVED. THE GIVEN ROWS OF THIS SEAT. 12 by the template 'for every input the law returns true; each argument reads behind the call as it read before'; 0 by the template 'total and deterministic' (their statements: YtnaafbdgkmlnaaaGreatTotals.lean).
  GIVEN WITH THE SEED: the statements are not yours to turn. If you find one false, say at which input.
  Laid BY PROGRAM, IN A SANDBOX (cutbox-rows.mjs): the forced cells as the released guide's own fill.sh prints them over the translation d3cb4f67a318e6c0… (all of the seat's roots in one cut). By AI agents, Wed Nov 11 2026. No macro, syntax, notation, axiom, sorry.
-/
import Derived.Test.YtnaafbdgkmlnaaaGreatChecked
import GoSem.Claim
import GoSem.ClaimJoined
import GoSem.ClaimMapViews
import Derived.JoinedTies
import Derived.KernelRfl
namespace Go.Proofs.YtnaafbdgkmlnaaaGreat
/- THE CELL 'sum', in the pinned program and in every row, IS THE sha256 OF THE DUMP (.gsa) THAT YtnaafbdgkmlnaaaGreatProg.lean LOADS. Nothing in Lean hashes anything: it is a label: what it is worth is what the hold of that sum in a sandbox is worth. -/
noncomputable def Tryz.pinned : Pinned := { name := "ytnaafbdgkmlnaaagreat", sum := "d3cb4f67a318e6c056c768380551448321673c1bdddf2547dd3bc8d0b97c0c54", checked := Tryz.checked }
namespace Rows
def none {H : Type} : Left H := { results := [], args := [] }

/-- 'laws.FnPlaySums': WHATEVER THE INPUT: true; the input reads as it did. -/
def fnPlaySumsSpec : ChangeSpec := { name := "fnPlaySums", fn := fun _ => fun
  | [d1, d2] => { results := [.lit (.bool true)], args := [d1, d2] }
  | _ => none }
def fnPlaySumsRow : OpenClaim := { program := "ytnaafbdgkmlnaaagreat", sum := "d3cb4f67a318e6c056c768380551448321673c1bdddf2547dd3bc8d0b97c0c54", func := "loop.example/tabularium/laws.FnPlaySums", spec := "fnPlaySums", unfollowed := true, recurses := true, apart := false }
def FnPlaySumsSaid : Prop := fnPlaySumsRow.holds Tryz.pinned (OpenSpec.ofChange fnPlaySumsSpec)

/-- ITS FALSE NEIGHBOUR: 'it returns false'. Refute it at one input. -/
def fnPlaySumsWrong : ChangeSpec := { name := "fnPlaySums", fn := fun _ => fun
  | [d1, d2] => { results := [.lit (.bool false)], args := [d1, d2] }
  | _ => none }
def FnPlaySumsWrongFalsely : Prop := fnPlaySumsRow.holds Tryz.pinned (OpenSpec.ofChange fnPlaySumsWrong)

/-- 'laws.FnTrueUndo': WHATEVER THE INPUT: true; the input reads as it did. -/
def fnTrueUndoSpec : ChangeSpec := { name := "fnTrueUndo", fn := fun _ => fun
  | [d] => { results := [.lit (.bool true)], args := [d] }
  | _ => none }
def fnTrueUndoRow : OpenClaim := { program := "ytnaafbdgkmlnaaagreat", sum := "d3cb4f67a318e6c056c768380551448321673c1bdddf2547dd3bc8d0b97c0c54", func := "loop.example/tabularium/laws.FnTrueUndo", spec := "fnTrueUndo", unfollowed := true, recurses := true, apart := false }
def FnTrueUndoSaid : Prop := fnTrueUndoRow.holds Tryz.pinned (OpenSpec.ofChange fnTrueUndoSpec)

/-- ITS FALSE NEIGHBOUR: 'it returns false'. Refute it at one input. -/
def fnTrueUndoWrong : ChangeSpec := { name := "fnTrueUndo", fn := fun _ => fun
  | [d] => { results := [.lit (.bool false)], args := [d] }
  | _ => none }
def FnTrueUndoWrongFalsely : Prop := fnTrueUndoRow.holds Tryz.pinned (OpenSpec.ofChange fnTrueUndoWrong)

/-- 'laws.FnFall': WHATEVER THE INPUT: true; the input reads as it did. -/
def fnFallSpec : ChangeSpec := { name := "fnFall", fn := fun _ => fun
  | [d] => { results := [.lit (.bool true)], args := [d] }
  | _ => none }
def fnFallRow : OpenClaim := { program := "ytnaafbdgkmlnaaagreat", sum := "d3cb4f67a318e6c056c768380551448321673c1bdddf2547dd3bc8d0b97c0c54", func := "loop.example/tabularium/laws.FnFall", spec := "fnFall", unfollowed := true, recurses := true, apart := false }
def FnFallSaid : Prop := fnFallRow.holds Tryz.pinned (OpenSpec.ofChange fnFallSpec)

/-- ITS FALSE NEIGHBOUR: 'it returns false'. Refute it at one input. -/
def fnFallWrong : ChangeSpec := { name := "fnFall", fn := fun _ => fun
  | [d] => { results := [.lit (.bool false)], args := [d] }
  | _ => none }
def FnFallWrongFalsely : Prop := fnFallRow.holds Tryz.pinned (OpenSpec.ofChange fnFallWrong)

/-- 'laws.FnFallTwice': WHATEVER THE INPUT: true; the input reads as it did. -/
def fnFallTwiceSpec : ChangeSpec := { name := "fnFallTwice", fn := fun _ => fun
  | [d1, d2] => { results := [.lit (.bool true)], args := [d1, d2] }
  | _ => none }
def fnFallTwiceRow : OpenClaim := { program := "ytnaafbdgkmlnaaagreat", sum := "d3cb4f67a318e6c056c768380551448321673c1bdddf2547dd3bc8d0b97c0c54", func := "loop.example/tabularium/laws.FnFallTwice", spec := "fnFallTwice", unfollowed := true, recurses := true, apart := false }
def FnFallTwiceSaid : Prop := fnFallTwiceRow.holds Tryz.pinned (OpenSpec.ofChange fnFallTwiceSpec)

/-- ITS FALSE NEIGHBOUR: 'it returns false'. Refute it at one input. -/
def fnFallTwiceWrong : ChangeSpec := { name := "fnFallTwice", fn := fun _ => fun
  | [d1, d2] => { results := [.lit (.bool false)], args := [d1, d2] }
  | _ => none }
def FnFallTwiceWrongFalsely : Prop := fnFallTwiceRow.holds Tryz.pinned (OpenSpec.ofChange fnFallTwiceWrong)

/-- 'laws.FnExactRiseUp': WHATEVER THE INPUT: true; the input reads as it did. -/
def fnExactRiseUpSpec : ChangeSpec := { name := "fnExactRiseUp", fn := fun _ => fun
  | [d1, d2] => { results := [.lit (.bool true)], args := [d1, d2] }
  | _ => none }
def fnExactRiseUpRow : OpenClaim := { program := "ytnaafbdgkmlnaaagreat", sum := "d3cb4f67a318e6c056c768380551448321673c1bdddf2547dd3bc8d0b97c0c54", func := "loop.example/tabularium/laws.FnExactRiseUp", spec := "fnExactRiseUp", unfollowed := true, recurses := true, apart := false }
def FnExactRiseUpSaid : Prop := fnExactRiseUpRow.holds Tryz.pinned (OpenSpec.ofChange fnExactRiseUpSpec)

/-- ITS FALSE NEIGHBOUR: 'it returns false'. Refute it at one input. -/
def fnExactRiseUpWrong : ChangeSpec := { name := "fnExactRiseUp", fn := fun _ => fun
  | [d1, d2] => { results := [.lit (.bool false)], args := [d1, d2] }
  | _ => none }
def FnExactRiseUpWrongFalsely : Prop := fnExactRiseUpRow.holds Tryz.pinned (OpenSpec.ofChange fnExactRiseUpWrong)

/-- 'laws.FnForceFall': WHATEVER THE INPUT: true; the input reads as it did. -/
def fnForceFallSpec : ChangeSpec := { name := "fnForceFall", fn := fun _ => fun
  | [d] => { results := [.lit (.bool true)], args := [d] }
  | _ => none }
def fnForceFallRow : OpenClaim := { program := "ytnaafbdgkmlnaaagreat", sum := "d3cb4f67a318e6c056c768380551448321673c1bdddf2547dd3bc8d0b97c0c54", func := "loop.example/tabularium/laws.FnForceFall", spec := "fnForceFall", unfollowed := true, recurses := true, apart := false }
def FnForceFallSaid : Prop := fnForceFallRow.holds Tryz.pinned (OpenSpec.ofChange fnForceFallSpec)

/-- ITS FALSE NEIGHBOUR: 'it returns false'. Refute it at one input. -/
def fnForceFallWrong : ChangeSpec := { name := "fnForceFall", fn := fun _ => fun
  | [d] => { results := [.lit (.bool false)], args := [d] }
  | _ => none }
def FnForceFallWrongFalsely : Prop := fnForceFallRow.holds Tryz.pinned (OpenSpec.ofChange fnForceFallWrong)

/-- 'laws.FnExactPlayTrue': WHATEVER THE INPUT: true; the input reads as it did. -/
def fnExactPlayTrueSpec : ChangeSpec := { name := "fnExactPlayTrue", fn := fun _ => fun
  | [d] => { results := [.lit (.bool true)], args := [d] }
  | _ => none }
def fnExactPlayTrueRow : OpenClaim := { program := "ytnaafbdgkmlnaaagreat", sum := "d3cb4f67a318e6c056c768380551448321673c1bdddf2547dd3bc8d0b97c0c54", func := "loop.example/tabularium/laws.FnExactPlayTrue", spec := "fnExactPlayTrue", unfollowed := true, recurses := true, apart := false }
def FnExactPlayTrueSaid : Prop := fnExactPlayTrueRow.holds Tryz.pinned (OpenSpec.ofChange fnExactPlayTrueSpec)

/-- ITS FALSE NEIGHBOUR: 'it returns false'. Refute it at one input. -/
def fnExactPlayTrueWrong : ChangeSpec := { name := "fnExactPlayTrue", fn := fun _ => fun
  | [d] => { results := [.lit (.bool false)], args := [d] }
  | _ => none }
def FnExactPlayTrueWrongFalsely : Prop := fnExactPlayTrueRow.holds Tryz.pinned (OpenSpec.ofChange fnExactPlayTrueWrong)

/-- 'laws.FnRiseNot': WHATEVER THE INPUT: true; the input reads as it did. -/
def fnRiseNotSpec : ChangeSpec := { name := "fnRiseNot", fn := fun _ => fun
  | [d] => { results := [.lit (.bool true)], args := [d] }
  | _ => none }
def fnRiseNotRow : OpenClaim := { program := "ytnaafbdgkmlnaaagreat", sum := "d3cb4f67a318e6c056c768380551448321673c1bdddf2547dd3bc8d0b97c0c54", func := "loop.example/tabularium/laws.FnRiseNot", spec := "fnRiseNot", unfollowed := true, recurses := true, apart := false }
def FnRiseNotSaid : Prop := fnRiseNotRow.holds Tryz.pinned (OpenSpec.ofChange fnRiseNotSpec)

/-- ITS FALSE NEIGHBOUR: 'it returns false'. Refute it at one input. -/
def fnRiseNotWrong : ChangeSpec := { name := "fnRiseNot", fn := fun _ => fun
  | [d] => { results := [.lit (.bool false)], args := [d] }
  | _ => none }
def FnRiseNotWrongFalsely : Prop := fnRiseNotRow.holds Tryz.pinned (OpenSpec.ofChange fnRiseNotWrong)

/-- 'laws.FnRiseLog': WHATEVER THE INPUT: true; the input reads as it did. -/
def fnRiseLogSpec : ChangeSpec := { name := "fnRiseLog", fn := fun _ => fun
  | [d] => { results := [.lit (.bool true)], args := [d] }
  | _ => none }
def fnRiseLogRow : OpenClaim := { program := "ytnaafbdgkmlnaaagreat", sum := "d3cb4f67a318e6c056c768380551448321673c1bdddf2547dd3bc8d0b97c0c54", func := "loop.example/tabularium/laws.FnRiseLog", spec := "fnRiseLog", unfollowed := true, recurses := true, apart := false }
def FnRiseLogSaid : Prop := fnRiseLogRow.holds Tryz.pinned (OpenSpec.ofChange fnRiseLogSpec)

/-- ITS FALSE NEIGHBOUR: 'it returns false'. Refute it at one input. -/
def fnRiseLogWrong : ChangeSpec := { name := "fnRiseLog", fn := fun _ => fun
  | [d] => { results := [.lit (.bool false)], args := [d] }
  | _ => none }
def FnRiseLogWrongFalsely : Prop := fnRiseLogRow.holds Tryz.pinned (OpenSpec.ofChange fnRiseLogWrong)

/-- 'laws.FnRiseNone': WHATEVER THE INPUT: true; the input reads as it did. -/
def fnRiseNoneSpec : ChangeSpec := { name := "fnRiseNone", fn := fun _ => fun
  | [d] => { results := [.lit (.bool true)], args := [d] }
  | _ => none }
def fnRiseNoneRow : OpenClaim := { program := "ytnaafbdgkmlnaaagreat", sum := "d3cb4f67a318e6c056c768380551448321673c1bdddf2547dd3bc8d0b97c0c54", func := "loop.example/tabularium/laws.FnRiseNone", spec := "fnRiseNone", unfollowed := true, recurses := true, apart := false }
def FnRiseNoneSaid : Prop := fnRiseNoneRow.holds Tryz.pinned (OpenSpec.ofChange fnRiseNoneSpec)

/-- ITS FALSE NEIGHBOUR: 'it returns false'. Refute it at one input. -/
def fnRiseNoneWrong : ChangeSpec := { name := "fnRiseNone", fn := fun _ => fun
  | [d] => { results := [.lit (.bool false)], args := [d] }
  | _ => none }
def FnRiseNoneWrongFalsely : Prop := fnRiseNoneRow.holds Tryz.pinned (OpenSpec.ofChange fnRiseNoneWrong)

/-- 'laws.FnWriteFall': WHATEVER THE INPUT: true; the input reads as it did. -/
def fnWriteFallSpec : ChangeSpec := { name := "fnWriteFall", fn := fun _ => fun
  | [d1, d2] => { results := [.lit (.bool true)], args := [d1, d2] }
  | _ => none }
def fnWriteFallRow : OpenClaim := { program := "ytnaafbdgkmlnaaagreat", sum := "d3cb4f67a318e6c056c768380551448321673c1bdddf2547dd3bc8d0b97c0c54", func := "loop.example/tabularium/laws.FnWriteFall", spec := "fnWriteFall", unfollowed := true, recurses := true, apart := false }
def FnWriteFallSaid : Prop := fnWriteFallRow.holds Tryz.pinned (OpenSpec.ofChange fnWriteFallSpec)

/-- ITS FALSE NEIGHBOUR: 'it returns false'. Refute it at one input. -/
def fnWriteFallWrong : ChangeSpec := { name := "fnWriteFall", fn := fun _ => fun
  | [d1, d2] => { results := [.lit (.bool false)], args := [d1, d2] }
  | _ => none }
def FnWriteFallWrongFalsely : Prop := fnWriteFallRow.holds Tryz.pinned (OpenSpec.ofChange fnWriteFallWrong)

/-- 'laws.FnExactPlayRun': WHATEVER THE INPUT: true; the input reads as it did. -/
def fnExactPlayRunSpec : ChangeSpec := { name := "fnExactPlayRun", fn := fun _ => fun
  | [d] => { results := [.lit (.bool true)], args := [d] }
  | _ => none }
def fnExactPlayRunRow : OpenClaim := { program := "ytnaafbdgkmlnaaagreat", sum := "d3cb4f67a318e6c056c768380551448321673c1bdddf2547dd3bc8d0b97c0c54", func := "loop.example/tabularium/laws.FnExactPlayRun", spec := "fnExactPlayRun", unfollowed := true, recurses := true, apart := false }
def FnExactPlayRunSaid : Prop := fnExactPlayRunRow.holds Tryz.pinned (OpenSpec.ofChange fnExactPlayRunSpec)

/-- ITS FALSE NEIGHBOUR: 'it returns false'. Refute it at one input. -/
def fnExactPlayRunWrong : ChangeSpec := { name := "fnExactPlayRun", fn := fun _ => fun
  | [d] => { results := [.lit (.bool false)], args := [d] }
  | _ => none }
def FnExactPlayRunWrongFalsely : Prop := fnExactPlayRunRow.holds Tryz.pinned (OpenSpec.ofChange fnExactPlayRunWrong)

/- THE SECOND FORM. 'bulk': how many values and letters a reading holds, each counted each time it is reached (what is shared counts as often as it is met; a slice's spare places count too). A statement '..UptoSaid' is the law's where the arguments, and the package variables that the reading takes, are together of bulk at most 1048576: NARROWER than '..Said'. Prove '..Said' where nothing that the law and all that it calls make is longer than what came in: it says more and counts as full. Else prove '..UptoSaid'. A law counts once. -/
mutual
def uptoBulk {H : Type} : DataW H → Nat
  | .lit (.string bytes) => bytes.length + 1
  | .lit _ => 1
  | .nil => 1
  | .ptr d => uptoBulk d + 1
  | .slice elems spare => uptoBulkAll elems + uptoBulkAll spare + 1
  | .agg parts => uptoBulkAll parts + 1
  | .iface _ d => uptoBulk d + 1
  | .map entries => uptoBulkEntries entries + 1
  | .held _ => 1
def uptoBulkAll {H : Type} : List (DataW H) → Nat
  | [] => 0
  | d :: r => uptoBulk d + uptoBulkAll r
def uptoBulkEntries {H : Type} : List (Lit × DataW H) → Nat
  | [] => 0
  | x :: r => uptoBulkEntry x + uptoBulkEntries r
def uptoBulkEntry {H : Type} : Lit × DataW H → Nat
  | (.string bytes, d) => bytes.length + uptoBulk d + 1
  | (_, d) => uptoBulk d + 1
 end
def uptoSmall : (H : Type) → List (DataW H) → Bool := fun _ ds => decide (uptoBulkAll ds ≤ 1048576)
def OpenSpec.upto (s : _root_.Go.ChangeSpec) : _root_.Go.OpenSpec := { _root_.Go.OpenSpec.ofChange s with cond := some uptoSmall }

/-- 'laws.FnPlaySums', WHERE WHAT IT READS IS OF BULK AT MOST 1048576: true; the input reads as it did. -/
def fnPlaySumsUptoRow : OpenClaim := { program := "ytnaafbdgkmlnaaagreat", sum := "d3cb4f67a318e6c056c768380551448321673c1bdddf2547dd3bc8d0b97c0c54", func := "loop.example/tabularium/laws.FnPlaySums", spec := "fnPlaySums", unfollowed := true, recurses := true, apart := false, narrowed := true }
def FnPlaySumsUptoSaid : Prop := fnPlaySumsUptoRow.holds Tryz.pinned (OpenSpec.upto fnPlaySumsSpec)

/-- 'laws.FnTrueUndo', WHERE WHAT IT READS IS OF BULK AT MOST 1048576: true; the input reads as it did. -/
def fnTrueUndoUptoRow : OpenClaim := { program := "ytnaafbdgkmlnaaagreat", sum := "d3cb4f67a318e6c056c768380551448321673c1bdddf2547dd3bc8d0b97c0c54", func := "loop.example/tabularium/laws.FnTrueUndo", spec := "fnTrueUndo", unfollowed := true, recurses := true, apart := false, narrowed := true }
def FnTrueUndoUptoSaid : Prop := fnTrueUndoUptoRow.holds Tryz.pinned (OpenSpec.upto fnTrueUndoSpec)

/-- 'laws.FnFall', WHERE WHAT IT READS IS OF BULK AT MOST 1048576: true; the input reads as it did. -/
def fnFallUptoRow : OpenClaim := { program := "ytnaafbdgkmlnaaagreat", sum := "d3cb4f67a318e6c056c768380551448321673c1bdddf2547dd3bc8d0b97c0c54", func := "loop.example/tabularium/laws.FnFall", spec := "fnFall", unfollowed := true, recurses := true, apart := false, narrowed := true }
def FnFallUptoSaid : Prop := fnFallUptoRow.holds Tryz.pinned (OpenSpec.upto fnFallSpec)

/-- 'laws.FnFallTwice', WHERE WHAT IT READS IS OF BULK AT MOST 1048576: true; the input reads as it did. -/
def fnFallTwiceUptoRow : OpenClaim := { program := "ytnaafbdgkmlnaaagreat", sum := "d3cb4f67a318e6c056c768380551448321673c1bdddf2547dd3bc8d0b97c0c54", func := "loop.example/tabularium/laws.FnFallTwice", spec := "fnFallTwice", unfollowed := true, recurses := true, apart := false, narrowed := true }
def FnFallTwiceUptoSaid : Prop := fnFallTwiceUptoRow.holds Tryz.pinned (OpenSpec.upto fnFallTwiceSpec)

/-- 'laws.FnExactRiseUp', WHERE WHAT IT READS IS OF BULK AT MOST 1048576: true; the input reads as it did. -/
def fnExactRiseUpUptoRow : OpenClaim := { program := "ytnaafbdgkmlnaaagreat", sum := "d3cb4f67a318e6c056c768380551448321673c1bdddf2547dd3bc8d0b97c0c54", func := "loop.example/tabularium/laws.FnExactRiseUp", spec := "fnExactRiseUp", unfollowed := true, recurses := true, apart := false, narrowed := true }
def FnExactRiseUpUptoSaid : Prop := fnExactRiseUpUptoRow.holds Tryz.pinned (OpenSpec.upto fnExactRiseUpSpec)

/-- 'laws.FnForceFall', WHERE WHAT IT READS IS OF BULK AT MOST 1048576: true; the input reads as it did. -/
def fnForceFallUptoRow : OpenClaim := { program := "ytnaafbdgkmlnaaagreat", sum := "d3cb4f67a318e6c056c768380551448321673c1bdddf2547dd3bc8d0b97c0c54", func := "loop.example/tabularium/laws.FnForceFall", spec := "fnForceFall", unfollowed := true, recurses := true, apart := false, narrowed := true }
def FnForceFallUptoSaid : Prop := fnForceFallUptoRow.holds Tryz.pinned (OpenSpec.upto fnForceFallSpec)

/-- 'laws.FnExactPlayTrue', WHERE WHAT IT READS IS OF BULK AT MOST 1048576: true; the input reads as it did. -/
def fnExactPlayTrueUptoRow : OpenClaim := { program := "ytnaafbdgkmlnaaagreat", sum := "d3cb4f67a318e6c056c768380551448321673c1bdddf2547dd3bc8d0b97c0c54", func := "loop.example/tabularium/laws.FnExactPlayTrue", spec := "fnExactPlayTrue", unfollowed := true, recurses := true, apart := false, narrowed := true }
def FnExactPlayTrueUptoSaid : Prop := fnExactPlayTrueUptoRow.holds Tryz.pinned (OpenSpec.upto fnExactPlayTrueSpec)

/-- 'laws.FnRiseNot', WHERE WHAT IT READS IS OF BULK AT MOST 1048576: true; the input reads as it did. -/
def fnRiseNotUptoRow : OpenClaim := { program := "ytnaafbdgkmlnaaagreat", sum := "d3cb4f67a318e6c056c768380551448321673c1bdddf2547dd3bc8d0b97c0c54", func := "loop.example/tabularium/laws.FnRiseNot", spec := "fnRiseNot", unfollowed := true, recurses := true, apart := false, narrowed := true }
def FnRiseNotUptoSaid : Prop := fnRiseNotUptoRow.holds Tryz.pinned (OpenSpec.upto fnRiseNotSpec)

/-- 'laws.FnRiseLog', WHERE WHAT IT READS IS OF BULK AT MOST 1048576: true; the input reads as it did. -/
def fnRiseLogUptoRow : OpenClaim := { program := "ytnaafbdgkmlnaaagreat", sum := "d3cb4f67a318e6c056c768380551448321673c1bdddf2547dd3bc8d0b97c0c54", func := "loop.example/tabularium/laws.FnRiseLog", spec := "fnRiseLog", unfollowed := true, recurses := true, apart := false, narrowed := true }
def FnRiseLogUptoSaid : Prop := fnRiseLogUptoRow.holds Tryz.pinned (OpenSpec.upto fnRiseLogSpec)

/-- 'laws.FnRiseNone', WHERE WHAT IT READS IS OF BULK AT MOST 1048576: true; the input reads as it did. -/
def fnRiseNoneUptoRow : OpenClaim := { program := "ytnaafbdgkmlnaaagreat", sum := "d3cb4f67a318e6c056c768380551448321673c1bdddf2547dd3bc8d0b97c0c54", func := "loop.example/tabularium/laws.FnRiseNone", spec := "fnRiseNone", unfollowed := true, recurses := true, apart := false, narrowed := true }
def FnRiseNoneUptoSaid : Prop := fnRiseNoneUptoRow.holds Tryz.pinned (OpenSpec.upto fnRiseNoneSpec)

/-- 'laws.FnWriteFall', WHERE WHAT IT READS IS OF BULK AT MOST 1048576: true; the input reads as it did. -/
def fnWriteFallUptoRow : OpenClaim := { program := "ytnaafbdgkmlnaaagreat", sum := "d3cb4f67a318e6c056c768380551448321673c1bdddf2547dd3bc8d0b97c0c54", func := "loop.example/tabularium/laws.FnWriteFall", spec := "fnWriteFall", unfollowed := true, recurses := true, apart := false, narrowed := true }
def FnWriteFallUptoSaid : Prop := fnWriteFallUptoRow.holds Tryz.pinned (OpenSpec.upto fnWriteFallSpec)

/-- 'laws.FnExactPlayRun', WHERE WHAT IT READS IS OF BULK AT MOST 1048576: true; the input reads as it did. -/
def fnExactPlayRunUptoRow : OpenClaim := { program := "ytnaafbdgkmlnaaagreat", sum := "d3cb4f67a318e6c056c768380551448321673c1bdddf2547dd3bc8d0b97c0c54", func := "loop.example/tabularium/laws.FnExactPlayRun", spec := "fnExactPlayRun", unfollowed := true, recurses := true, apart := false, narrowed := true }
def FnExactPlayRunUptoSaid : Prop := fnExactPlayRunUptoRow.holds Tryz.pinned (OpenSpec.upto fnExactPlayRunSpec)

end Rows
end Go.Proofs.YtnaafbdgkmlnaaaGreat
