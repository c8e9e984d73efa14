/-
  No cell of these rows narrows 'for every input' (looked for: loops, veiled, ifaces, maps, wideKeys, modest, calm, conditions, laid).
  DERIVED. THE GIVEN ROWS OF THIS SEAT. 14 by the template 'for every input the law returns true; each argument reads behind the call as it read before'; 0 by the template 'total and deterministic' (their statements: YtfdebanfenlglaaTotals.lean).
  GIVEN WITH THE SEED: the statements are not yours to turn. If you find one false, say at which input.
  Laid BY PROGRAM, IN A SANDBOX (cutbox-rows.mjs): the forced cells as the released guide's own fill.sh prints them over the translation 23b6f0e15b37faa4… (all of the seat's roots in one cut). By AI agents, Wed Nov 11 2026. No macro, syntax, notation, axiom, sorry.
-/
import Derived.Test.YtfdebanfenlglaaChecked
import GoSem.Claim
import GoSem.ClaimJoined
import GoSem.ClaimMapViews
import Derived.JoinedTies
import Derived.KernelRfl
namespace Go.Proofs.Ytfdebanfenlglaa
/- THE CELL 'sum', in the pinned program and in every row, IS THE sha256 OF THE DUMP (.gsa) THAT YtfdebanfenlglaaProg.lean LOADS. Nothing in Lean hashes anything: it is a label: what it is worth is what the hold of that sum in a sandbox is worth. -/
noncomputable def Try.pinned : Pinned := { name := "ytfdebanfenlglaa", sum := "23b6f0e15b37faa422f0fa5e600877a3aebcddc9d817150d2eef911963e343ea", checked := Try.checked }
namespace Rows
def none {H : Type} : Left H := { results := [], args := [] }

/-- 'laws.FnExactNeeded': WHATEVER THE INPUT: true; the input reads as it did. -/
def fnExactNeededSpec : ChangeSpec := { name := "fnExactNeeded", fn := fun _ => fun
  | [d1, d2] => { results := [.lit (.bool true)], args := [d1, d2] }
  | _ => none }
def fnExactNeededRow : OpenClaim := { program := "ytfdebanfenlglaa", sum := "23b6f0e15b37faa422f0fa5e600877a3aebcddc9d817150d2eef911963e343ea", func := "loop.example/g00214/laws.FnExactNeeded", spec := "fnExactNeeded", unfollowed := true, recurses := true, apart := false }
def FnExactNeededSaid : Prop := fnExactNeededRow.holds Try.pinned (OpenSpec.ofChange fnExactNeededSpec)

/-- ITS FALSE NEIGHBOUR: 'it returns false'. Refute it at one input. -/
def fnExactNeededWrong : ChangeSpec := { name := "fnExactNeeded", fn := fun _ => fun
  | [d1, d2] => { results := [.lit (.bool false)], args := [d1, d2] }
  | _ => none }
def FnExactNeededWrongFalsely : Prop := fnExactNeededRow.holds Try.pinned (OpenSpec.ofChange fnExactNeededWrong)

/-- 'laws.FnShadowed': WHATEVER THE INPUT: true; the input reads as it did. -/
def fnShadowedSpec : ChangeSpec := { name := "fnShadowed", fn := fun _ => fun
  | [d] => { results := [.lit (.bool true)], args := [d] }
  | _ => none }
def fnShadowedRow : OpenClaim := { program := "ytfdebanfenlglaa", sum := "23b6f0e15b37faa422f0fa5e600877a3aebcddc9d817150d2eef911963e343ea", func := "loop.example/g00214/laws.FnShadowed", spec := "fnShadowed", unfollowed := true, recurses := true, apart := false }
def FnShadowedSaid : Prop := fnShadowedRow.holds Try.pinned (OpenSpec.ofChange fnShadowedSpec)

/-- ITS FALSE NEIGHBOUR: 'it returns false'. Refute it at one input. -/
def fnShadowedWrong : ChangeSpec := { name := "fnShadowed", fn := fun _ => fun
  | [d] => { results := [.lit (.bool false)], args := [d] }
  | _ => none }
def FnShadowedWrongFalsely : Prop := fnShadowedRow.holds Try.pinned (OpenSpec.ofChange fnShadowedWrong)

/-- 'laws.FnExactCompacted': WHATEVER THE INPUT: true; the input reads as it did. -/
def fnExactCompactedSpec : ChangeSpec := { name := "fnExactCompacted", fn := fun _ => fun
  | [d1, d2, d3] => { results := [.lit (.bool true)], args := [d1, d2, d3] }
  | _ => none }
def fnExactCompactedRow : OpenClaim := { program := "ytfdebanfenlglaa", sum := "23b6f0e15b37faa422f0fa5e600877a3aebcddc9d817150d2eef911963e343ea", func := "loop.example/g00214/laws.FnExactCompacted", spec := "fnExactCompacted", unfollowed := true, recurses := true, apart := false }
def FnExactCompactedSaid : Prop := fnExactCompactedRow.holds Try.pinned (OpenSpec.ofChange fnExactCompactedSpec)

/-- ITS FALSE NEIGHBOUR: 'it returns false'. Refute it at one input. -/
def fnExactCompactedWrong : ChangeSpec := { name := "fnExactCompacted", fn := fun _ => fun
  | [d1, d2, d3] => { results := [.lit (.bool false)], args := [d1, d2, d3] }
  | _ => none }
def FnExactCompactedWrongFalsely : Prop := fnExactCompactedRow.holds Try.pinned (OpenSpec.ofChange fnExactCompactedWrong)

/-- 'laws.FnCompacted': WHATEVER THE INPUT: true; the input reads as it did. -/
def fnCompactedSpec : ChangeSpec := { name := "fnCompacted", fn := fun _ => fun
  | [d] => { results := [.lit (.bool true)], args := [d] }
  | _ => none }
def fnCompactedRow : OpenClaim := { program := "ytfdebanfenlglaa", sum := "23b6f0e15b37faa422f0fa5e600877a3aebcddc9d817150d2eef911963e343ea", func := "loop.example/g00214/laws.FnCompacted", spec := "fnCompacted", unfollowed := true, recurses := true, apart := false }
def FnCompactedSaid : Prop := fnCompactedRow.holds Try.pinned (OpenSpec.ofChange fnCompactedSpec)

/-- ITS FALSE NEIGHBOUR: 'it returns false'. Refute it at one input. -/
def fnCompactedWrong : ChangeSpec := { name := "fnCompacted", fn := fun _ => fun
  | [d] => { results := [.lit (.bool false)], args := [d] }
  | _ => none }
def FnCompactedWrongFalsely : Prop := fnCompactedRow.holds Try.pinned (OpenSpec.ofChange fnCompactedWrong)

/-- 'laws.FnExactDbOk': WHATEVER THE INPUT: true; the input reads as it did. -/
def fnExactDbOkSpec : ChangeSpec := { name := "fnExactDbOk", fn := fun _ => fun
  | [d] => { results := [.lit (.bool true)], args := [d] }
  | _ => none }
def fnExactDbOkRow : OpenClaim := { program := "ytfdebanfenlglaa", sum := "23b6f0e15b37faa422f0fa5e600877a3aebcddc9d817150d2eef911963e343ea", func := "loop.example/g00214/laws.FnExactDbOk", spec := "fnExactDbOk", unfollowed := true, recurses := true, apart := false }
def FnExactDbOkSaid : Prop := fnExactDbOkRow.holds Try.pinned (OpenSpec.ofChange fnExactDbOkSpec)

/-- ITS FALSE NEIGHBOUR: 'it returns false'. Refute it at one input. -/
def fnExactDbOkWrong : ChangeSpec := { name := "fnExactDbOk", fn := fun _ => fun
  | [d] => { results := [.lit (.bool false)], args := [d] }
  | _ => none }
def FnExactDbOkWrongFalsely : Prop := fnExactDbOkRow.holds Try.pinned (OpenSpec.ofChange fnExactDbOkWrong)

/-- 'laws.FnExactDbSnap': WHATEVER THE INPUT: true; the input reads as it did. -/
def fnExactDbSnapSpec : ChangeSpec := { name := "fnExactDbSnap", fn := fun _ => fun
  | [d] => { results := [.lit (.bool true)], args := [d] }
  | _ => none }
def fnExactDbSnapRow : OpenClaim := { program := "ytfdebanfenlglaa", sum := "23b6f0e15b37faa422f0fa5e600877a3aebcddc9d817150d2eef911963e343ea", func := "loop.example/g00214/laws.FnExactDbSnap", spec := "fnExactDbSnap", unfollowed := true, recurses := true, apart := false }
def FnExactDbSnapSaid : Prop := fnExactDbSnapRow.holds Try.pinned (OpenSpec.ofChange fnExactDbSnapSpec)

/-- ITS FALSE NEIGHBOUR: 'it returns false'. Refute it at one input. -/
def fnExactDbSnapWrong : ChangeSpec := { name := "fnExactDbSnap", fn := fun _ => fun
  | [d] => { results := [.lit (.bool false)], args := [d] }
  | _ => none }
def FnExactDbSnapWrongFalsely : Prop := fnExactDbSnapRow.holds Try.pinned (OpenSpec.ofChange fnExactDbSnapWrong)

/-- 'laws.FnExactDbFree': WHATEVER THE INPUT: true; the input reads as it did. -/
def fnExactDbFreeSpec : ChangeSpec := { name := "fnExactDbFree", fn := fun _ => fun
  | [d1, d2] => { results := [.lit (.bool true)], args := [d1, d2] }
  | _ => none }
def fnExactDbFreeRow : OpenClaim := { program := "ytfdebanfenlglaa", sum := "23b6f0e15b37faa422f0fa5e600877a3aebcddc9d817150d2eef911963e343ea", func := "loop.example/g00214/laws.FnExactDbFree", spec := "fnExactDbFree", unfollowed := true, recurses := true, apart := false }
def FnExactDbFreeSaid : Prop := fnExactDbFreeRow.holds Try.pinned (OpenSpec.ofChange fnExactDbFreeSpec)

/-- ITS FALSE NEIGHBOUR: 'it returns false'. Refute it at one input. -/
def fnExactDbFreeWrong : ChangeSpec := { name := "fnExactDbFree", fn := fun _ => fun
  | [d1, d2] => { results := [.lit (.bool false)], args := [d1, d2] }
  | _ => none }
def FnExactDbFreeWrongFalsely : Prop := fnExactDbFreeRow.holds Try.pinned (OpenSpec.ofChange fnExactDbFreeWrong)

/-- 'laws.FnExactDbGet': WHATEVER THE INPUT: true; the input reads as it did. -/
def fnExactDbGetSpec : ChangeSpec := { name := "fnExactDbGet", fn := fun _ => fun
  | [d1, d2, d3] => { results := [.lit (.bool true)], args := [d1, d2, d3] }
  | _ => none }
def fnExactDbGetRow : OpenClaim := { program := "ytfdebanfenlglaa", sum := "23b6f0e15b37faa422f0fa5e600877a3aebcddc9d817150d2eef911963e343ea", func := "loop.example/g00214/laws.FnExactDbGet", spec := "fnExactDbGet", unfollowed := true, recurses := true, apart := false }
def FnExactDbGetSaid : Prop := fnExactDbGetRow.holds Try.pinned (OpenSpec.ofChange fnExactDbGetSpec)

/-- ITS FALSE NEIGHBOUR: 'it returns false'. Refute it at one input. -/
def fnExactDbGetWrong : ChangeSpec := { name := "fnExactDbGet", fn := fun _ => fun
  | [d1, d2, d3] => { results := [.lit (.bool false)], args := [d1, d2, d3] }
  | _ => none }
def FnExactDbGetWrongFalsely : Prop := fnExactDbGetRow.holds Try.pinned (OpenSpec.ofChange fnExactDbGetWrong)

/-- 'laws.FnExactDbFlush': WHATEVER THE INPUT: true; the input reads as it did. -/
def fnExactDbFlushSpec : ChangeSpec := { name := "fnExactDbFlush", fn := fun _ => fun
  | [d] => { results := [.lit (.bool true)], args := [d] }
  | _ => none }
def fnExactDbFlushRow : OpenClaim := { program := "ytfdebanfenlglaa", sum := "23b6f0e15b37faa422f0fa5e600877a3aebcddc9d817150d2eef911963e343ea", func := "loop.example/g00214/laws.FnExactDbFlush", spec := "fnExactDbFlush", inPlace := ["slices.overlaps[loop.example/g00214/impl.Run]"], unfollowed := true, recurses := true, apart := false }
def FnExactDbFlushSaid : Prop := fnExactDbFlushRow.holds Try.pinned (OpenSpec.ofChange fnExactDbFlushSpec)

/-- ITS FALSE NEIGHBOUR: 'it returns false'. Refute it at one input. -/
def fnExactDbFlushWrong : ChangeSpec := { name := "fnExactDbFlush", fn := fun _ => fun
  | [d] => { results := [.lit (.bool false)], args := [d] }
  | _ => none }
def FnExactDbFlushWrongFalsely : Prop := fnExactDbFlushRow.holds Try.pinned (OpenSpec.ofChange fnExactDbFlushWrong)

/-- 'laws.FnExactDbWrite': WHATEVER THE INPUT: true; the input reads as it did. -/
def fnExactDbWriteSpec : ChangeSpec := { name := "fnExactDbWrite", fn := fun _ => fun
  | [d1, d2] => { results := [.lit (.bool true)], args := [d1, d2] }
  | _ => none }
def fnExactDbWriteRow : OpenClaim := { program := "ytfdebanfenlglaa", sum := "23b6f0e15b37faa422f0fa5e600877a3aebcddc9d817150d2eef911963e343ea", func := "loop.example/g00214/laws.FnExactDbWrite", spec := "fnExactDbWrite", unfollowed := true, recurses := true, apart := false }
def FnExactDbWriteSaid : Prop := fnExactDbWriteRow.holds Try.pinned (OpenSpec.ofChange fnExactDbWriteSpec)

/-- ITS FALSE NEIGHBOUR: 'it returns false'. Refute it at one input. -/
def fnExactDbWriteWrong : ChangeSpec := { name := "fnExactDbWrite", fn := fun _ => fun
  | [d1, d2] => { results := [.lit (.bool false)], args := [d1, d2] }
  | _ => none }
def FnExactDbWriteWrongFalsely : Prop := fnExactDbWriteRow.holds Try.pinned (OpenSpec.ofChange fnExactDbWriteWrong)

/-- 'laws.FnExactDbScan': WHATEVER THE INPUT: true; the input reads as it did. -/
def fnExactDbScanSpec : ChangeSpec := { name := "fnExactDbScan", fn := fun _ => fun
  | [d1, d2, d3, d4] => { results := [.lit (.bool true)], args := [d1, d2, d3, d4] }
  | _ => none }
def fnExactDbScanRow : OpenClaim := { program := "ytfdebanfenlglaa", sum := "23b6f0e15b37faa422f0fa5e600877a3aebcddc9d817150d2eef911963e343ea", func := "loop.example/g00214/laws.FnExactDbScan", spec := "fnExactDbScan", unfollowed := true, recurses := true, apart := false }
def FnExactDbScanSaid : Prop := fnExactDbScanRow.holds Try.pinned (OpenSpec.ofChange fnExactDbScanSpec)

/-- ITS FALSE NEIGHBOUR: 'it returns false'. Refute it at one input. -/
def fnExactDbScanWrong : ChangeSpec := { name := "fnExactDbScan", fn := fun _ => fun
  | [d1, d2, d3, d4] => { results := [.lit (.bool false)], args := [d1, d2, d3, d4] }
  | _ => none }
def FnExactDbScanWrongFalsely : Prop := fnExactDbScanRow.holds Try.pinned (OpenSpec.ofChange fnExactDbScanWrong)

/-- 'laws.FnLooked': WHATEVER THE INPUT: true; the input reads as it did. -/
def fnLookedSpec : ChangeSpec := { name := "fnLooked", fn := fun _ => fun
  | [d] => { results := [.lit (.bool true)], args := [d] }
  | _ => none }
def fnLookedRow : OpenClaim := { program := "ytfdebanfenlglaa", sum := "23b6f0e15b37faa422f0fa5e600877a3aebcddc9d817150d2eef911963e343ea", func := "loop.example/g00214/laws.FnLooked", spec := "fnLooked", unfollowed := true, recurses := true, apart := false }
def FnLookedSaid : Prop := fnLookedRow.holds Try.pinned (OpenSpec.ofChange fnLookedSpec)

/-- ITS FALSE NEIGHBOUR: 'it returns false'. Refute it at one input. -/
def fnLookedWrong : ChangeSpec := { name := "fnLooked", fn := fun _ => fun
  | [d] => { results := [.lit (.bool false)], args := [d] }
  | _ => none }
def FnLookedWrongFalsely : Prop := fnLookedRow.holds Try.pinned (OpenSpec.ofChange fnLookedWrong)

/-- 'laws.FnWritten': WHATEVER THE INPUT: true; the input reads as it did. -/
def fnWrittenSpec : ChangeSpec := { name := "fnWritten", fn := fun _ => fun
  | [d] => { results := [.lit (.bool true)], args := [d] }
  | _ => none }
def fnWrittenRow : OpenClaim := { program := "ytfdebanfenlglaa", sum := "23b6f0e15b37faa422f0fa5e600877a3aebcddc9d817150d2eef911963e343ea", func := "loop.example/g00214/laws.FnWritten", spec := "fnWritten", unfollowed := true, recurses := true, apart := false }
def FnWrittenSaid : Prop := fnWrittenRow.holds Try.pinned (OpenSpec.ofChange fnWrittenSpec)

/-- ITS FALSE NEIGHBOUR: 'it returns false'. Refute it at one input. -/
def fnWrittenWrong : ChangeSpec := { name := "fnWritten", fn := fun _ => fun
  | [d] => { results := [.lit (.bool false)], args := [d] }
  | _ => none }
def FnWrittenWrongFalsely : Prop := fnWrittenRow.holds Try.pinned (OpenSpec.ofChange fnWrittenWrong)

/-- 'laws.FnExactDbCompact': WHATEVER THE INPUT: true; the input reads as it did. -/
def fnExactDbCompactSpec : ChangeSpec := { name := "fnExactDbCompact", fn := fun _ => fun
  | [d] => { results := [.lit (.bool true)], args := [d] }
  | _ => none }
def fnExactDbCompactRow : OpenClaim := { program := "ytfdebanfenlglaa", sum := "23b6f0e15b37faa422f0fa5e600877a3aebcddc9d817150d2eef911963e343ea", func := "loop.example/g00214/laws.FnExactDbCompact", spec := "fnExactDbCompact", unfollowed := true, recurses := true, apart := false }
def FnExactDbCompactSaid : Prop := fnExactDbCompactRow.holds Try.pinned (OpenSpec.ofChange fnExactDbCompactSpec)

/-- ITS FALSE NEIGHBOUR: 'it returns false'. Refute it at one input. -/
def fnExactDbCompactWrong : ChangeSpec := { name := "fnExactDbCompact", fn := fun _ => fun
  | [d] => { results := [.lit (.bool false)], args := [d] }
  | _ => none }
def FnExactDbCompactWrongFalsely : Prop := fnExactDbCompactRow.holds Try.pinned (OpenSpec.ofChange fnExactDbCompactWrong)

/- THE SECOND FORM. 'bulk': how many values and letters a reading holds, each counted each time it is reached (what is shared counts as often as it is met; a slice's spare places count too). A statement '..UptoSaid' is the law's where the arguments, and the package variables that the reading takes, are together of bulk at most 1048576: NARROWER than '..Said'. Prove '..Said' where nothing that the law and all that it calls make is longer than what came in: it says more and counts as full. Else prove '..UptoSaid'. A law counts once. -/
mutual
def uptoBulk {H : Type} : DataW H → Nat
  | .lit (.string bytes) => bytes.length + 1
  | .lit _ => 1
  | .nil => 1
  | .ptr d => uptoBulk d + 1
  | .slice elems spare => uptoBulkAll elems + uptoBulkAll spare + 1
  | .agg parts => uptoBulkAll parts + 1
  | .iface _ d => uptoBulk d + 1
  | .map entries => uptoBulkEntries entries + 1
  | .held _ => 1
def uptoBulkAll {H : Type} : List (DataW H) → Nat
  | [] => 0
  | d :: r => uptoBulk d + uptoBulkAll r
def uptoBulkEntries {H : Type} : List (Lit × DataW H) → Nat
  | [] => 0
  | x :: r => uptoBulkEntry x + uptoBulkEntries r
def uptoBulkEntry {H : Type} : Lit × DataW H → Nat
  | (.string bytes, d) => bytes.length + uptoBulk d + 1
  | (_, d) => uptoBulk d + 1
 end
def uptoSmall : (H : Type) → List (DataW H) → Bool := fun _ ds => decide (uptoBulkAll ds ≤ 1048576)
def OpenSpec.upto (s : _root_.Go.ChangeSpec) : _root_.Go.OpenSpec := { _root_.Go.OpenSpec.ofChange s with cond := some uptoSmall }

/-- 'laws.FnExactNeeded', WHERE WHAT IT READS IS OF BULK AT MOST 1048576: true; the input reads as it did. -/
def fnExactNeededUptoRow : OpenClaim := { program := "ytfdebanfenlglaa", sum := "23b6f0e15b37faa422f0fa5e600877a3aebcddc9d817150d2eef911963e343ea", func := "loop.example/g00214/laws.FnExactNeeded", spec := "fnExactNeeded", unfollowed := true, recurses := true, apart := false, narrowed := true }
def FnExactNeededUptoSaid : Prop := fnExactNeededUptoRow.holds Try.pinned (OpenSpec.upto fnExactNeededSpec)

/-- 'laws.FnShadowed', WHERE WHAT IT READS IS OF BULK AT MOST 1048576: true; the input reads as it did. -/
def fnShadowedUptoRow : OpenClaim := { program := "ytfdebanfenlglaa", sum := "23b6f0e15b37faa422f0fa5e600877a3aebcddc9d817150d2eef911963e343ea", func := "loop.example/g00214/laws.FnShadowed", spec := "fnShadowed", unfollowed := true, recurses := true, apart := false, narrowed := true }
def FnShadowedUptoSaid : Prop := fnShadowedUptoRow.holds Try.pinned (OpenSpec.upto fnShadowedSpec)

/-- 'laws.FnExactCompacted', WHERE WHAT IT READS IS OF BULK AT MOST 1048576: true; the input reads as it did. -/
def fnExactCompactedUptoRow : OpenClaim := { program := "ytfdebanfenlglaa", sum := "23b6f0e15b37faa422f0fa5e600877a3aebcddc9d817150d2eef911963e343ea", func := "loop.example/g00214/laws.FnExactCompacted", spec := "fnExactCompacted", unfollowed := true, recurses := true, apart := false, narrowed := true }
def FnExactCompactedUptoSaid : Prop := fnExactCompactedUptoRow.holds Try.pinned (OpenSpec.upto fnExactCompactedSpec)

/-- 'laws.FnCompacted', WHERE WHAT IT READS IS OF BULK AT MOST 1048576: true; the input reads as it did. -/
def fnCompactedUptoRow : OpenClaim := { program := "ytfdebanfenlglaa", sum := "23b6f0e15b37faa422f0fa5e600877a3aebcddc9d817150d2eef911963e343ea", func := "loop.example/g00214/laws.FnCompacted", spec := "fnCompacted", unfollowed := true, recurses := true, apart := false, narrowed := true }
def FnCompactedUptoSaid : Prop := fnCompactedUptoRow.holds Try.pinned (OpenSpec.upto fnCompactedSpec)

/-- 'laws.FnExactDbOk', WHERE WHAT IT READS IS OF BULK AT MOST 1048576: true; the input reads as it did. -/
def fnExactDbOkUptoRow : OpenClaim := { program := "ytfdebanfenlglaa", sum := "23b6f0e15b37faa422f0fa5e600877a3aebcddc9d817150d2eef911963e343ea", func := "loop.example/g00214/laws.FnExactDbOk", spec := "fnExactDbOk", unfollowed := true, recurses := true, apart := false, narrowed := true }
def FnExactDbOkUptoSaid : Prop := fnExactDbOkUptoRow.holds Try.pinned (OpenSpec.upto fnExactDbOkSpec)

/-- 'laws.FnExactDbSnap', WHERE WHAT IT READS IS OF BULK AT MOST 1048576: true; the input reads as it did. -/
def fnExactDbSnapUptoRow : OpenClaim := { program := "ytfdebanfenlglaa", sum := "23b6f0e15b37faa422f0fa5e600877a3aebcddc9d817150d2eef911963e343ea", func := "loop.example/g00214/laws.FnExactDbSnap", spec := "fnExactDbSnap", unfollowed := true, recurses := true, apart := false, narrowed := true }
def FnExactDbSnapUptoSaid : Prop := fnExactDbSnapUptoRow.holds Try.pinned (OpenSpec.upto fnExactDbSnapSpec)

/-- 'laws.FnExactDbFree', WHERE WHAT IT READS IS OF BULK AT MOST 1048576: true; the input reads as it did. -/
def fnExactDbFreeUptoRow : OpenClaim := { program := "ytfdebanfenlglaa", sum := "23b6f0e15b37faa422f0fa5e600877a3aebcddc9d817150d2eef911963e343ea", func := "loop.example/g00214/laws.FnExactDbFree", spec := "fnExactDbFree", unfollowed := true, recurses := true, apart := false, narrowed := true }
def FnExactDbFreeUptoSaid : Prop := fnExactDbFreeUptoRow.holds Try.pinned (OpenSpec.upto fnExactDbFreeSpec)

/-- 'laws.FnExactDbGet', WHERE WHAT IT READS IS OF BULK AT MOST 1048576: true; the input reads as it did. -/
def fnExactDbGetUptoRow : OpenClaim := { program := "ytfdebanfenlglaa", sum := "23b6f0e15b37faa422f0fa5e600877a3aebcddc9d817150d2eef911963e343ea", func := "loop.example/g00214/laws.FnExactDbGet", spec := "fnExactDbGet", unfollowed := true, recurses := true, apart := false, narrowed := true }
def FnExactDbGetUptoSaid : Prop := fnExactDbGetUptoRow.holds Try.pinned (OpenSpec.upto fnExactDbGetSpec)

/-- 'laws.FnExactDbFlush', WHERE WHAT IT READS IS OF BULK AT MOST 1048576: true; the input reads as it did. -/
def fnExactDbFlushUptoRow : OpenClaim := { program := "ytfdebanfenlglaa", sum := "23b6f0e15b37faa422f0fa5e600877a3aebcddc9d817150d2eef911963e343ea", func := "loop.example/g00214/laws.FnExactDbFlush", spec := "fnExactDbFlush", inPlace := ["slices.overlaps[loop.example/g00214/impl.Run]"], unfollowed := true, recurses := true, apart := false, narrowed := true }
def FnExactDbFlushUptoSaid : Prop := fnExactDbFlushUptoRow.holds Try.pinned (OpenSpec.upto fnExactDbFlushSpec)

/-- 'laws.FnExactDbWrite', WHERE WHAT IT READS IS OF BULK AT MOST 1048576: true; the input reads as it did. -/
def fnExactDbWriteUptoRow : OpenClaim := { program := "ytfdebanfenlglaa", sum := "23b6f0e15b37faa422f0fa5e600877a3aebcddc9d817150d2eef911963e343ea", func := "loop.example/g00214/laws.FnExactDbWrite", spec := "fnExactDbWrite", unfollowed := true, recurses := true, apart := false, narrowed := true }
def FnExactDbWriteUptoSaid : Prop := fnExactDbWriteUptoRow.holds Try.pinned (OpenSpec.upto fnExactDbWriteSpec)

/-- 'laws.FnExactDbScan', WHERE WHAT IT READS IS OF BULK AT MOST 1048576: true; the input reads as it did. -/
def fnExactDbScanUptoRow : OpenClaim := { program := "ytfdebanfenlglaa", sum := "23b6f0e15b37faa422f0fa5e600877a3aebcddc9d817150d2eef911963e343ea", func := "loop.example/g00214/laws.FnExactDbScan", spec := "fnExactDbScan", unfollowed := true, recurses := true, apart := false, narrowed := true }
def FnExactDbScanUptoSaid : Prop := fnExactDbScanUptoRow.holds Try.pinned (OpenSpec.upto fnExactDbScanSpec)

/-- 'laws.FnLooked', WHERE WHAT IT READS IS OF BULK AT MOST 1048576: true; the input reads as it did. -/
def fnLookedUptoRow : OpenClaim := { program := "ytfdebanfenlglaa", sum := "23b6f0e15b37faa422f0fa5e600877a3aebcddc9d817150d2eef911963e343ea", func := "loop.example/g00214/laws.FnLooked", spec := "fnLooked", unfollowed := true, recurses := true, apart := false, narrowed := true }
def FnLookedUptoSaid : Prop := fnLookedUptoRow.holds Try.pinned (OpenSpec.upto fnLookedSpec)

/-- 'laws.FnWritten', WHERE WHAT IT READS IS OF BULK AT MOST 1048576: true; the input reads as it did. -/
def fnWrittenUptoRow : OpenClaim := { program := "ytfdebanfenlglaa", sum := "23b6f0e15b37faa422f0fa5e600877a3aebcddc9d817150d2eef911963e343ea", func := "loop.example/g00214/laws.FnWritten", spec := "fnWritten", unfollowed := true, recurses := true, apart := false, narrowed := true }
def FnWrittenUptoSaid : Prop := fnWrittenUptoRow.holds Try.pinned (OpenSpec.upto fnWrittenSpec)

/-- 'laws.FnExactDbCompact', WHERE WHAT IT READS IS OF BULK AT MOST 1048576: true; the input reads as it did. -/
def fnExactDbCompactUptoRow : OpenClaim := { program := "ytfdebanfenlglaa", sum := "23b6f0e15b37faa422f0fa5e600877a3aebcddc9d817150d2eef911963e343ea", func := "loop.example/g00214/laws.FnExactDbCompact", spec := "fnExactDbCompact", unfollowed := true, recurses := true, apart := false, narrowed := true }
def FnExactDbCompactUptoSaid : Prop := fnExactDbCompactUptoRow.holds Try.pinned (OpenSpec.upto fnExactDbCompactSpec)

end Rows
end Go.Proofs.Ytfdebanfenlglaa
