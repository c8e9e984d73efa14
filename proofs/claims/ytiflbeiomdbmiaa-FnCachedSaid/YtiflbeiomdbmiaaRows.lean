/-
  No cell of these rows narrows 'for every input' (looked for: loops, veiled, ifaces, maps, wideKeys, modest, calm, conditions, laid).
  DERIVED. THE GIVEN ROWS OF THIS SEAT. 5 by the template 'for every input the law returns true; each argument reads behind the call as it read before'; 0 by the template 'total and deterministic' (their statements: YtiflbeiomdbmiaaTotals.lean).
  GIVEN WITH THE SEED: the statements are not yours to turn. If you find one false, say at which input.
  Laid BY PROGRAM, IN A SANDBOX (cutbox-rows.mjs): the forced cells as the released guide's own fill.sh prints them over the translation 1796ec20b9a57aa5… (all of the seat's roots in one cut). By AI agents, Wed Nov 11 2026. No macro, syntax, notation, axiom, sorry.
-/
import Derived.Test.YtiflbeiomdbmiaaChecked
import GoSem.Claim
import GoSem.ClaimJoined
import GoSem.ClaimMapViews
import Derived.JoinedTies
import Derived.KernelRfl
namespace Go.Proofs.Ytiflbeiomdbmiaa
/- THE CELL 'sum', in the pinned program and in every row, IS THE sha256 OF THE DUMP (.gsa) THAT YtiflbeiomdbmiaaProg.lean LOADS. Nothing in Lean hashes anything: it is a label: what it is worth is what the hold of that sum in a sandbox is worth. -/
noncomputable def Try.pinned : Pinned := { name := "ytiflbeiomdbmiaa", sum := "1796ec20b9a57aa5652eb4742db7bfe26c5b63e08680224390d3f406f95fbf14", checked := Try.checked }
namespace Rows
def none {H : Type} : Left H := { results := [], args := [] }

/-- 'laws.FnPinned': WHATEVER THE INPUT: true; the input reads as it did. -/
def fnPinnedSpec : ChangeSpec := { name := "fnPinned", fn := fun _ => fun
  | [d] => { results := [.lit (.bool true)], args := [d] }
  | _ => none }
def fnPinnedRow : OpenClaim := { program := "ytiflbeiomdbmiaa", sum := "1796ec20b9a57aa5652eb4742db7bfe26c5b63e08680224390d3f406f95fbf14", func := "loop.example/g00214/laws.FnPinned", spec := "fnPinned", unfollowed := true, recurses := true, apart := false }
def FnPinnedSaid : Prop := fnPinnedRow.holds Try.pinned (OpenSpec.ofChange fnPinnedSpec)

/-- ITS FALSE NEIGHBOUR: 'it returns false'. Refute it at one input. -/
def fnPinnedWrong : ChangeSpec := { name := "fnPinned", fn := fun _ => fun
  | [d] => { results := [.lit (.bool false)], args := [d] }
  | _ => none }
def FnPinnedWrongFalsely : Prop := fnPinnedRow.holds Try.pinned (OpenSpec.ofChange fnPinnedWrong)

/-- 'laws.FnExactCacheFree': WHATEVER THE INPUT: true; the input reads as it did. -/
def fnExactCacheFreeSpec : ChangeSpec := { name := "fnExactCacheFree", fn := fun _ => fun
  | [d1, d2] => { results := [.lit (.bool true)], args := [d1, d2] }
  | _ => none }
def fnExactCacheFreeRow : OpenClaim := { program := "ytiflbeiomdbmiaa", sum := "1796ec20b9a57aa5652eb4742db7bfe26c5b63e08680224390d3f406f95fbf14", func := "loop.example/g00214/laws.FnExactCacheFree", spec := "fnExactCacheFree", unfollowed := true, recurses := true, apart := false }
def FnExactCacheFreeSaid : Prop := fnExactCacheFreeRow.holds Try.pinned (OpenSpec.ofChange fnExactCacheFreeSpec)

/-- ITS FALSE NEIGHBOUR: 'it returns false'. Refute it at one input. -/
def fnExactCacheFreeWrong : ChangeSpec := { name := "fnExactCacheFree", fn := fun _ => fun
  | [d1, d2] => { results := [.lit (.bool false)], args := [d1, d2] }
  | _ => none }
def FnExactCacheFreeWrongFalsely : Prop := fnExactCacheFreeRow.holds Try.pinned (OpenSpec.ofChange fnExactCacheFreeWrong)

/-- 'laws.FnExactCacheGet': WHATEVER THE INPUT: true; the input reads as it did. -/
def fnExactCacheGetSpec : ChangeSpec := { name := "fnExactCacheGet", fn := fun _ => fun
  | [d1, d2] => { results := [.lit (.bool true)], args := [d1, d2] }
  | _ => none }
def fnExactCacheGetRow : OpenClaim := { program := "ytiflbeiomdbmiaa", sum := "1796ec20b9a57aa5652eb4742db7bfe26c5b63e08680224390d3f406f95fbf14", func := "loop.example/g00214/laws.FnExactCacheGet", spec := "fnExactCacheGet", inPlace := ["slices.overlaps[loop.example/g00214/impl.Slot]"], unfollowed := true, recurses := true, apart := false }
def FnExactCacheGetSaid : Prop := fnExactCacheGetRow.holds Try.pinned (OpenSpec.ofChange fnExactCacheGetSpec)

/-- ITS FALSE NEIGHBOUR: 'it returns false'. Refute it at one input. -/
def fnExactCacheGetWrong : ChangeSpec := { name := "fnExactCacheGet", fn := fun _ => fun
  | [d1, d2] => { results := [.lit (.bool false)], args := [d1, d2] }
  | _ => none }
def FnExactCacheGetWrongFalsely : Prop := fnExactCacheGetRow.holds Try.pinned (OpenSpec.ofChange fnExactCacheGetWrong)

/-- 'laws.FnExactCachePut': WHATEVER THE INPUT: true; the input reads as it did. -/
def fnExactCachePutSpec : ChangeSpec := { name := "fnExactCachePut", fn := fun _ => fun
  | [d1, d2, d3] => { results := [.lit (.bool true)], args := [d1, d2, d3] }
  | _ => none }
def fnExactCachePutRow : OpenClaim := { program := "ytiflbeiomdbmiaa", sum := "1796ec20b9a57aa5652eb4742db7bfe26c5b63e08680224390d3f406f95fbf14", func := "loop.example/g00214/laws.FnExactCachePut", spec := "fnExactCachePut", inPlace := ["slices.overlaps[loop.example/g00214/impl.Slot]"], unfollowed := true, recurses := true, apart := false }
def FnExactCachePutSaid : Prop := fnExactCachePutRow.holds Try.pinned (OpenSpec.ofChange fnExactCachePutSpec)

/-- ITS FALSE NEIGHBOUR: 'it returns false'. Refute it at one input. -/
def fnExactCachePutWrong : ChangeSpec := { name := "fnExactCachePut", fn := fun _ => fun
  | [d1, d2, d3] => { results := [.lit (.bool false)], args := [d1, d2, d3] }
  | _ => none }
def FnExactCachePutWrongFalsely : Prop := fnExactCachePutRow.holds Try.pinned (OpenSpec.ofChange fnExactCachePutWrong)

/-- 'laws.FnCached': WHATEVER THE INPUT: true; the input reads as it did. -/
def fnCachedSpec : ChangeSpec := { name := "fnCached", fn := fun _ => fun
  | [d] => { results := [.lit (.bool true)], args := [d] }
  | _ => none }
def fnCachedRow : OpenClaim := { program := "ytiflbeiomdbmiaa", sum := "1796ec20b9a57aa5652eb4742db7bfe26c5b63e08680224390d3f406f95fbf14", func := "loop.example/g00214/laws.FnCached", spec := "fnCached", inPlace := ["slices.overlaps[loop.example/g00214/impl.Slot]"], unfollowed := true, recurses := true, apart := false }
def FnCachedSaid : Prop := fnCachedRow.holds Try.pinned (OpenSpec.ofChange fnCachedSpec)

/-- ITS FALSE NEIGHBOUR: 'it returns false'. Refute it at one input. -/
def fnCachedWrong : ChangeSpec := { name := "fnCached", fn := fun _ => fun
  | [d] => { results := [.lit (.bool false)], args := [d] }
  | _ => none }
def FnCachedWrongFalsely : Prop := fnCachedRow.holds Try.pinned (OpenSpec.ofChange fnCachedWrong)

/- THE SECOND FORM. 'bulk': how many values and letters a reading holds, each counted each time it is reached (what is shared counts as often as it is met; a slice's spare places count too). A statement '..UptoSaid' is the law's where the arguments, and the package variables that the reading takes, are together of bulk at most 1048576: NARROWER than '..Said'. Prove '..Said' where nothing that the law and all that it calls make is longer than what came in: it says more and counts as full. Else prove '..UptoSaid'. A law counts once. -/
mutual
def uptoBulk {H : Type} : DataW H → Nat
  | .lit (.string bytes) => bytes.length + 1
  | .lit _ => 1
  | .nil => 1
  | .ptr d => uptoBulk d + 1
  | .slice elems spare => uptoBulkAll elems + uptoBulkAll spare + 1
  | .agg parts => uptoBulkAll parts + 1
  | .iface _ d => uptoBulk d + 1
  | .map entries => uptoBulkEntries entries + 1
  | .held _ => 1
def uptoBulkAll {H : Type} : List (DataW H) → Nat
  | [] => 0
  | d :: r => uptoBulk d + uptoBulkAll r
def uptoBulkEntries {H : Type} : List (Lit × DataW H) → Nat
  | [] => 0
  | x :: r => uptoBulkEntry x + uptoBulkEntries r
def uptoBulkEntry {H : Type} : Lit × DataW H → Nat
  | (.string bytes, d) => bytes.length + uptoBulk d + 1
  | (_, d) => uptoBulk d + 1
 end
def uptoSmall : (H : Type) → List (DataW H) → Bool := fun _ ds => decide (uptoBulkAll ds ≤ 1048576)
def OpenSpec.upto (s : _root_.Go.ChangeSpec) : _root_.Go.OpenSpec := { _root_.Go.OpenSpec.ofChange s with cond := some uptoSmall }

/-- 'laws.FnPinned', WHERE WHAT IT READS IS OF BULK AT MOST 1048576: true; the input reads as it did. -/
def fnPinnedUptoRow : OpenClaim := { program := "ytiflbeiomdbmiaa", sum := "1796ec20b9a57aa5652eb4742db7bfe26c5b63e08680224390d3f406f95fbf14", func := "loop.example/g00214/laws.FnPinned", spec := "fnPinned", unfollowed := true, recurses := true, apart := false, narrowed := true }
def FnPinnedUptoSaid : Prop := fnPinnedUptoRow.holds Try.pinned (OpenSpec.upto fnPinnedSpec)

/-- 'laws.FnExactCacheFree', WHERE WHAT IT READS IS OF BULK AT MOST 1048576: true; the input reads as it did. -/
def fnExactCacheFreeUptoRow : OpenClaim := { program := "ytiflbeiomdbmiaa", sum := "1796ec20b9a57aa5652eb4742db7bfe26c5b63e08680224390d3f406f95fbf14", func := "loop.example/g00214/laws.FnExactCacheFree", spec := "fnExactCacheFree", unfollowed := true, recurses := true, apart := false, narrowed := true }
def FnExactCacheFreeUptoSaid : Prop := fnExactCacheFreeUptoRow.holds Try.pinned (OpenSpec.upto fnExactCacheFreeSpec)

/-- 'laws.FnExactCacheGet', WHERE WHAT IT READS IS OF BULK AT MOST 1048576: true; the input reads as it did. -/
def fnExactCacheGetUptoRow : OpenClaim := { program := "ytiflbeiomdbmiaa", sum := "1796ec20b9a57aa5652eb4742db7bfe26c5b63e08680224390d3f406f95fbf14", func := "loop.example/g00214/laws.FnExactCacheGet", spec := "fnExactCacheGet", inPlace := ["slices.overlaps[loop.example/g00214/impl.Slot]"], unfollowed := true, recurses := true, apart := false, narrowed := true }
def FnExactCacheGetUptoSaid : Prop := fnExactCacheGetUptoRow.holds Try.pinned (OpenSpec.upto fnExactCacheGetSpec)

/-- 'laws.FnExactCachePut', WHERE WHAT IT READS IS OF BULK AT MOST 1048576: true; the input reads as it did. -/
def fnExactCachePutUptoRow : OpenClaim := { program := "ytiflbeiomdbmiaa", sum := "1796ec20b9a57aa5652eb4742db7bfe26c5b63e08680224390d3f406f95fbf14", func := "loop.example/g00214/laws.FnExactCachePut", spec := "fnExactCachePut", inPlace := ["slices.overlaps[loop.example/g00214/impl.Slot]"], unfollowed := true, recurses := true, apart := false, narrowed := true }
def FnExactCachePutUptoSaid : Prop := fnExactCachePutUptoRow.holds Try.pinned (OpenSpec.upto fnExactCachePutSpec)

/-- 'laws.FnCached', WHERE WHAT IT READS IS OF BULK AT MOST 1048576: true; the input reads as it did. -/
def fnCachedUptoRow : OpenClaim := { program := "ytiflbeiomdbmiaa", sum := "1796ec20b9a57aa5652eb4742db7bfe26c5b63e08680224390d3f406f95fbf14", func := "loop.example/g00214/laws.FnCached", spec := "fnCached", inPlace := ["slices.overlaps[loop.example/g00214/impl.Slot]"], unfollowed := true, recurses := true, apart := false, narrowed := true }
def FnCachedUptoSaid : Prop := fnCachedUptoRow.holds Try.pinned (OpenSpec.upto fnCachedSpec)

end Rows
end Go.Proofs.Ytiflbeiomdbmiaa
