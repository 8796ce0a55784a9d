/-
  No cell of these rows narrows 'for every input' (looked for: loops, veiled, ifaces, maps, wideKeys, modest, calm, conditions, laid).
  DERIVED. THE GIVEN ROWS OF THIS SEAT. 4 by the template 'for every input the law returns true; each argument reads behind the call as it read before'; 0 by the template 'total and deterministic' (their statements: YtffliemhdjcflaaTotals.lean).
  GIVEN WITH THE SEED: the statements are not yours to turn. If you find one false, say at which input.
  Laid BY PROGRAM, IN A SANDBOX (cutbox-rows.mjs): the forced cells as the released guide's own fill.sh prints them over the translation 3b4a6dbd95c3549d… (all of the seat's roots in one cut). By AI agents, Wed Nov 11 2026. No macro, syntax, notation, axiom, sorry.
-/
import Derived.Test.YtffliemhdjcflaaChecked
import GoSem.Claim
import GoSem.ClaimJoined
import GoSem.ClaimMapViews
import Derived.JoinedTies
import Derived.KernelRfl
namespace Go.Proofs.Ytffliemhdjcflaa
/- THE CELL 'sum', in the pinned program and in every row, IS THE sha256 OF THE DUMP (.gsa) THAT YtffliemhdjcflaaProg.lean LOADS. Nothing in Lean hashes anything: it is a label: what it is worth is what the hold of that sum in a sandbox is worth. -/
noncomputable def Try.pinned : Pinned := { name := "ytffliemhdjcflaa", sum := "3b4a6dbd95c3549d6798e4c5f3eb940725ae09e58fa0a28fd05b00bd067d692a", checked := Try.checked }
namespace Rows
def none {H : Type} : Left H := { results := [], args := [] }

/-- 'laws.FnExactHeapNext': WHATEVER THE INPUT: true; the input reads as it did. -/
def fnExactHeapNextSpec : ChangeSpec := { name := "fnExactHeapNext", fn := fun _ => fun
  | [d1, d2] => { results := [.lit (.bool true)], args := [d1, d2] }
  | _ => none }
def fnExactHeapNextRow : OpenClaim := { program := "ytffliemhdjcflaa", sum := "3b4a6dbd95c3549d6798e4c5f3eb940725ae09e58fa0a28fd05b00bd067d692a", func := "loop.example/gemel/laws.FnExactHeapNext", spec := "fnExactHeapNext", unfollowed := true, recurses := true, apart := false }
def FnExactHeapNextSaid : Prop := fnExactHeapNextRow.holds Try.pinned (OpenSpec.ofChange fnExactHeapNextSpec)

/-- ITS FALSE NEIGHBOUR: 'it returns false'. Refute it at one input. -/
def fnExactHeapNextWrong : ChangeSpec := { name := "fnExactHeapNext", fn := fun _ => fun
  | [d1, d2] => { results := [.lit (.bool false)], args := [d1, d2] }
  | _ => none }
def FnExactHeapNextWrongFalsely : Prop := fnExactHeapNextRow.holds Try.pinned (OpenSpec.ofChange fnExactHeapNextWrong)

/-- 'laws.FnExactHeapMethods': WHATEVER THE INPUT: true; the input reads as it did. -/
def fnExactHeapMethodsSpec : ChangeSpec := { name := "fnExactHeapMethods", fn := fun _ => fun
  | [d1, d2] => { results := [.lit (.bool true)], args := [d1, d2] }
  | _ => none }
def fnExactHeapMethodsRow : OpenClaim := { program := "ytffliemhdjcflaa", sum := "3b4a6dbd95c3549d6798e4c5f3eb940725ae09e58fa0a28fd05b00bd067d692a", func := "loop.example/gemel/laws.FnExactHeapMethods", spec := "fnExactHeapMethods", unfollowed := true, recurses := true, apart := false }
def FnExactHeapMethodsSaid : Prop := fnExactHeapMethodsRow.holds Try.pinned (OpenSpec.ofChange fnExactHeapMethodsSpec)

/-- ITS FALSE NEIGHBOUR: 'it returns false'. Refute it at one input. -/
def fnExactHeapMethodsWrong : ChangeSpec := { name := "fnExactHeapMethods", fn := fun _ => fun
  | [d1, d2] => { results := [.lit (.bool false)], args := [d1, d2] }
  | _ => none }
def FnExactHeapMethodsWrongFalsely : Prop := fnExactHeapMethodsRow.holds Try.pinned (OpenSpec.ofChange fnExactHeapMethodsWrong)

/-- 'laws.FnWalkNext': WHATEVER THE INPUT: true; the input reads as it did. -/
def fnWalkNextSpec : ChangeSpec := { name := "fnWalkNext", fn := fun _ => fun
  | [d] => { results := [.lit (.bool true)], args := [d] }
  | _ => none }
def fnWalkNextRow : OpenClaim := { program := "ytffliemhdjcflaa", sum := "3b4a6dbd95c3549d6798e4c5f3eb940725ae09e58fa0a28fd05b00bd067d692a", func := "loop.example/gemel/laws.FnWalkNext", spec := "fnWalkNext", unfollowed := true, recurses := true, apart := false }
def FnWalkNextSaid : Prop := fnWalkNextRow.holds Try.pinned (OpenSpec.ofChange fnWalkNextSpec)

/-- ITS FALSE NEIGHBOUR: 'it returns false'. Refute it at one input. -/
def fnWalkNextWrong : ChangeSpec := { name := "fnWalkNext", fn := fun _ => fun
  | [d] => { results := [.lit (.bool false)], args := [d] }
  | _ => none }
def FnWalkNextWrongFalsely : Prop := fnWalkNextRow.holds Try.pinned (OpenSpec.ofChange fnWalkNextWrong)

/-- 'laws.FnWalkMethods': WHATEVER THE INPUT: true; the input reads as it did. -/
def fnWalkMethodsSpec : ChangeSpec := { name := "fnWalkMethods", fn := fun _ => fun
  | [d] => { results := [.lit (.bool true)], args := [d] }
  | _ => none }
def fnWalkMethodsRow : OpenClaim := { program := "ytffliemhdjcflaa", sum := "3b4a6dbd95c3549d6798e4c5f3eb940725ae09e58fa0a28fd05b00bd067d692a", func := "loop.example/gemel/laws.FnWalkMethods", spec := "fnWalkMethods", unfollowed := true, recurses := true, apart := false }
def FnWalkMethodsSaid : Prop := fnWalkMethodsRow.holds Try.pinned (OpenSpec.ofChange fnWalkMethodsSpec)

/-- ITS FALSE NEIGHBOUR: 'it returns false'. Refute it at one input. -/
def fnWalkMethodsWrong : ChangeSpec := { name := "fnWalkMethods", fn := fun _ => fun
  | [d] => { results := [.lit (.bool false)], args := [d] }
  | _ => none }
def FnWalkMethodsWrongFalsely : Prop := fnWalkMethodsRow.holds Try.pinned (OpenSpec.ofChange fnWalkMethodsWrong)

/- THE SECOND FORM. 'bulk': how many values and letters a reading holds, each counted each time it is reached (what is shared counts as often as it is met; a slice's spare places count too). A statement '..UptoSaid' is the law's where the arguments, and the package variables that the reading takes, are together of bulk at most 1048576: NARROWER than '..Said'. Prove '..Said' where nothing that the law and all that it calls make is longer than what came in: it says more and counts as full. Else prove '..UptoSaid'. A law counts once. -/
mutual
def uptoBulk {H : Type} : DataW H → Nat
  | .lit (.string bytes) => bytes.length + 1
  | .lit _ => 1
  | .nil => 1
  | .ptr d => uptoBulk d + 1
  | .slice elems spare => uptoBulkAll elems + uptoBulkAll spare + 1
  | .agg parts => uptoBulkAll parts + 1
  | .iface _ d => uptoBulk d + 1
  | .map entries => uptoBulkEntries entries + 1
  | .held _ => 1
def uptoBulkAll {H : Type} : List (DataW H) → Nat
  | [] => 0
  | d :: r => uptoBulk d + uptoBulkAll r
def uptoBulkEntries {H : Type} : List (Lit × DataW H) → Nat
  | [] => 0
  | x :: r => uptoBulkEntry x + uptoBulkEntries r
def uptoBulkEntry {H : Type} : Lit × DataW H → Nat
  | (.string bytes, d) => bytes.length + uptoBulk d + 1
  | (_, d) => uptoBulk d + 1
 end
def uptoSmall : (H : Type) → List (DataW H) → Bool := fun _ ds => decide (uptoBulkAll ds ≤ 1048576)
def OpenSpec.upto (s : _root_.Go.ChangeSpec) : _root_.Go.OpenSpec := { _root_.Go.OpenSpec.ofChange s with cond := some uptoSmall }

/-- 'laws.FnExactHeapNext', WHERE WHAT IT READS IS OF BULK AT MOST 1048576: true; the input reads as it did. -/
def fnExactHeapNextUptoRow : OpenClaim := { program := "ytffliemhdjcflaa", sum := "3b4a6dbd95c3549d6798e4c5f3eb940725ae09e58fa0a28fd05b00bd067d692a", func := "loop.example/gemel/laws.FnExactHeapNext", spec := "fnExactHeapNext", unfollowed := true, recurses := true, apart := false, narrowed := true }
def FnExactHeapNextUptoSaid : Prop := fnExactHeapNextUptoRow.holds Try.pinned (OpenSpec.upto fnExactHeapNextSpec)

/-- 'laws.FnExactHeapMethods', WHERE WHAT IT READS IS OF BULK AT MOST 1048576: true; the input reads as it did. -/
def fnExactHeapMethodsUptoRow : OpenClaim := { program := "ytffliemhdjcflaa", sum := "3b4a6dbd95c3549d6798e4c5f3eb940725ae09e58fa0a28fd05b00bd067d692a", func := "loop.example/gemel/laws.FnExactHeapMethods", spec := "fnExactHeapMethods", unfollowed := true, recurses := true, apart := false, narrowed := true }
def FnExactHeapMethodsUptoSaid : Prop := fnExactHeapMethodsUptoRow.holds Try.pinned (OpenSpec.upto fnExactHeapMethodsSpec)

/-- 'laws.FnWalkNext', WHERE WHAT IT READS IS OF BULK AT MOST 1048576: true; the input reads as it did. -/
def fnWalkNextUptoRow : OpenClaim := { program := "ytffliemhdjcflaa", sum := "3b4a6dbd95c3549d6798e4c5f3eb940725ae09e58fa0a28fd05b00bd067d692a", func := "loop.example/gemel/laws.FnWalkNext", spec := "fnWalkNext", unfollowed := true, recurses := true, apart := false, narrowed := true }
def FnWalkNextUptoSaid : Prop := fnWalkNextUptoRow.holds Try.pinned (OpenSpec.upto fnWalkNextSpec)

/-- 'laws.FnWalkMethods', WHERE WHAT IT READS IS OF BULK AT MOST 1048576: true; the input reads as it did. -/
def fnWalkMethodsUptoRow : OpenClaim := { program := "ytffliemhdjcflaa", sum := "3b4a6dbd95c3549d6798e4c5f3eb940725ae09e58fa0a28fd05b00bd067d692a", func := "loop.example/gemel/laws.FnWalkMethods", spec := "fnWalkMethods", unfollowed := true, recurses := true, apart := false, narrowed := true }
def FnWalkMethodsUptoSaid : Prop := fnWalkMethodsUptoRow.holds Try.pinned (OpenSpec.upto fnWalkMethodsSpec)

end Rows
end Go.Proofs.Ytffliemhdjcflaa
