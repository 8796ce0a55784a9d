/-
  No cell of these rows narrows 'for every input' (looked for: loops, veiled, ifaces, maps, wideKeys, modest, calm, conditions, laid).
  DERIVED. THE GIVEN ROWS OF THIS SEAT. 8 by the template 'for every input the law returns true; each argument reads behind the call as it read before'; 0 by the template 'total and deterministic' (their statements: YtbbnjbichjhmoaaGreatTotals.lean).
  GIVEN WITH THE SEED: the statements are not yours to turn. If you find one false, say at which input.
  Laid BY PROGRAM, IN A SANDBOX (cutbox-rows.mjs): the forced cells as the released guide's own fill.sh prints them over the translation 21afdc1c50748fd5… (all of the seat's roots in one cut). By AI agents, Wed Nov 11 2026. No macro, syntax, notation, axiom, sorry.
-/
import Derived.Test.YtbbnjbichjhmoaaGreatChecked
import GoSem.Claim
import GoSem.ClaimJoined
import GoSem.ClaimMapViews
import Derived.JoinedTies
import Derived.KernelRfl
namespace Go.Proofs.YtbbnjbichjhmoaaGreat
/- THE CELL 'sum', in the pinned program and in every row, IS THE sha256 OF THE DUMP (.gsa) THAT YtbbnjbichjhmoaaGreatProg.lean LOADS. Nothing in Lean hashes anything: it is a label: what it is worth is what the hold of that sum in a sandbox is worth. -/
noncomputable def Tryz.pinned : Pinned := { name := "ytbbnjbichjhmoaagreat", sum := "21afdc1c50748fd516794521bbb4b04393d5e91ba2e7cbd11edc809c652ac982", checked := Tryz.checked }
namespace Rows
def none {H : Type} : Left H := { results := [], args := [] }

/-- 'laws.FnWalkOut': WHATEVER THE INPUT: true; the input reads as it did. -/
def fnWalkOutSpec : ChangeSpec := { name := "fnWalkOut", fn := fun _ => fun
  | [d] => { results := [.lit (.bool true)], args := [d] }
  | _ => none }
def fnWalkOutRow : OpenClaim := { program := "ytbbnjbichjhmoaagreat", sum := "21afdc1c50748fd516794521bbb4b04393d5e91ba2e7cbd11edc809c652ac982", func := "loop.example/gemel/laws.FnWalkOut", spec := "fnWalkOut", unfollowed := true, recurses := true, apart := false }
def FnWalkOutSaid : Prop := fnWalkOutRow.holds Tryz.pinned (OpenSpec.ofChange fnWalkOutSpec)

/-- ITS FALSE NEIGHBOUR: 'it returns false'. Refute it at one input. -/
def fnWalkOutWrong : ChangeSpec := { name := "fnWalkOut", fn := fun _ => fun
  | [d] => { results := [.lit (.bool false)], args := [d] }
  | _ => none }
def FnWalkOutWrongFalsely : Prop := fnWalkOutRow.holds Tryz.pinned (OpenSpec.ofChange fnWalkOutWrong)

/-- 'laws.FnWalkOutTwice': WHATEVER THE INPUT: true; the input reads as it did. -/
def fnWalkOutTwiceSpec : ChangeSpec := { name := "fnWalkOutTwice", fn := fun _ => fun
  | [d] => { results := [.lit (.bool true)], args := [d] }
  | _ => none }
def fnWalkOutTwiceRow : OpenClaim := { program := "ytbbnjbichjhmoaagreat", sum := "21afdc1c50748fd516794521bbb4b04393d5e91ba2e7cbd11edc809c652ac982", func := "loop.example/gemel/laws.FnWalkOutTwice", spec := "fnWalkOutTwice", unfollowed := true, recurses := true, apart := false }
def FnWalkOutTwiceSaid : Prop := fnWalkOutTwiceRow.holds Tryz.pinned (OpenSpec.ofChange fnWalkOutTwiceSpec)

/-- ITS FALSE NEIGHBOUR: 'it returns false'. Refute it at one input. -/
def fnWalkOutTwiceWrong : ChangeSpec := { name := "fnWalkOutTwice", fn := fun _ => fun
  | [d] => { results := [.lit (.bool false)], args := [d] }
  | _ => none }
def FnWalkOutTwiceWrongFalsely : Prop := fnWalkOutTwiceRow.holds Tryz.pinned (OpenSpec.ofChange fnWalkOutTwiceWrong)

/-- 'laws.FnExactMachMethods': WHATEVER THE INPUT: true; the input reads as it did. -/
def fnExactMachMethodsSpec : ChangeSpec := { name := "fnExactMachMethods", fn := fun _ => fun
  | [d1, d2] => { results := [.lit (.bool true)], args := [d1, d2] }
  | _ => none }
def fnExactMachMethodsRow : OpenClaim := { program := "ytbbnjbichjhmoaagreat", sum := "21afdc1c50748fd516794521bbb4b04393d5e91ba2e7cbd11edc809c652ac982", func := "loop.example/gemel/laws.FnExactMachMethods", spec := "fnExactMachMethods", unfollowed := true, recurses := true, apart := false }
def FnExactMachMethodsSaid : Prop := fnExactMachMethodsRow.holds Tryz.pinned (OpenSpec.ofChange fnExactMachMethodsSpec)

/-- ITS FALSE NEIGHBOUR: 'it returns false'. Refute it at one input. -/
def fnExactMachMethodsWrong : ChangeSpec := { name := "fnExactMachMethods", fn := fun _ => fun
  | [d1, d2] => { results := [.lit (.bool false)], args := [d1, d2] }
  | _ => none }
def FnExactMachMethodsWrongFalsely : Prop := fnExactMachMethodsRow.holds Tryz.pinned (OpenSpec.ofChange fnExactMachMethodsWrong)

/-- 'laws.FnWalkOver': WHATEVER THE INPUT: true; the input reads as it did. -/
def fnWalkOverSpec : ChangeSpec := { name := "fnWalkOver", fn := fun _ => fun
  | [d] => { results := [.lit (.bool true)], args := [d] }
  | _ => none }
def fnWalkOverRow : OpenClaim := { program := "ytbbnjbichjhmoaagreat", sum := "21afdc1c50748fd516794521bbb4b04393d5e91ba2e7cbd11edc809c652ac982", func := "loop.example/gemel/laws.FnWalkOver", spec := "fnWalkOver", unfollowed := true, recurses := true, apart := false }
def FnWalkOverSaid : Prop := fnWalkOverRow.holds Tryz.pinned (OpenSpec.ofChange fnWalkOverSpec)

/-- ITS FALSE NEIGHBOUR: 'it returns false'. Refute it at one input. -/
def fnWalkOverWrong : ChangeSpec := { name := "fnWalkOver", fn := fun _ => fun
  | [d] => { results := [.lit (.bool false)], args := [d] }
  | _ => none }
def FnWalkOverWrongFalsely : Prop := fnWalkOverRow.holds Tryz.pinned (OpenSpec.ofChange fnWalkOverWrong)

/-- 'laws.FnWalkOverRun': WHATEVER THE INPUT: true; the input reads as it did. -/
def fnWalkOverRunSpec : ChangeSpec := { name := "fnWalkOverRun", fn := fun _ => fun
  | [d] => { results := [.lit (.bool true)], args := [d] }
  | _ => none }
def fnWalkOverRunRow : OpenClaim := { program := "ytbbnjbichjhmoaagreat", sum := "21afdc1c50748fd516794521bbb4b04393d5e91ba2e7cbd11edc809c652ac982", func := "loop.example/gemel/laws.FnWalkOverRun", spec := "fnWalkOverRun", unfollowed := true, recurses := true, apart := false }
def FnWalkOverRunSaid : Prop := fnWalkOverRunRow.holds Tryz.pinned (OpenSpec.ofChange fnWalkOverRunSpec)

/-- ITS FALSE NEIGHBOUR: 'it returns false'. Refute it at one input. -/
def fnWalkOverRunWrong : ChangeSpec := { name := "fnWalkOverRun", fn := fun _ => fun
  | [d] => { results := [.lit (.bool false)], args := [d] }
  | _ => none }
def FnWalkOverRunWrongFalsely : Prop := fnWalkOverRunRow.holds Tryz.pinned (OpenSpec.ofChange fnWalkOverRunWrong)

/-- 'laws.FnWalkOutRun': WHATEVER THE INPUT: true; the input reads as it did. -/
def fnWalkOutRunSpec : ChangeSpec := { name := "fnWalkOutRun", fn := fun _ => fun
  | [d] => { results := [.lit (.bool true)], args := [d] }
  | _ => none }
def fnWalkOutRunRow : OpenClaim := { program := "ytbbnjbichjhmoaagreat", sum := "21afdc1c50748fd516794521bbb4b04393d5e91ba2e7cbd11edc809c652ac982", func := "loop.example/gemel/laws.FnWalkOutRun", spec := "fnWalkOutRun", unfollowed := true, recurses := true, apart := false }
def FnWalkOutRunSaid : Prop := fnWalkOutRunRow.holds Tryz.pinned (OpenSpec.ofChange fnWalkOutRunSpec)

/-- ITS FALSE NEIGHBOUR: 'it returns false'. Refute it at one input. -/
def fnWalkOutRunWrong : ChangeSpec := { name := "fnWalkOutRun", fn := fun _ => fun
  | [d] => { results := [.lit (.bool false)], args := [d] }
  | _ => none }
def FnWalkOutRunWrongFalsely : Prop := fnWalkOutRunRow.holds Tryz.pinned (OpenSpec.ofChange fnWalkOutRunWrong)

/-- 'laws.FnExactHeapOut': WHATEVER THE INPUT: true; the input reads as it did. -/
def fnExactHeapOutSpec : ChangeSpec := { name := "fnExactHeapOut", fn := fun _ => fun
  | [d1, d2, d3] => { results := [.lit (.bool true)], args := [d1, d2, d3] }
  | _ => none }
def fnExactHeapOutRow : OpenClaim := { program := "ytbbnjbichjhmoaagreat", sum := "21afdc1c50748fd516794521bbb4b04393d5e91ba2e7cbd11edc809c652ac982", func := "loop.example/gemel/laws.FnExactHeapOut", spec := "fnExactHeapOut", unfollowed := true, recurses := true, apart := false }
def FnExactHeapOutSaid : Prop := fnExactHeapOutRow.holds Tryz.pinned (OpenSpec.ofChange fnExactHeapOutSpec)

/-- ITS FALSE NEIGHBOUR: 'it returns false'. Refute it at one input. -/
def fnExactHeapOutWrong : ChangeSpec := { name := "fnExactHeapOut", fn := fun _ => fun
  | [d1, d2, d3] => { results := [.lit (.bool false)], args := [d1, d2, d3] }
  | _ => none }
def FnExactHeapOutWrongFalsely : Prop := fnExactHeapOutRow.holds Tryz.pinned (OpenSpec.ofChange fnExactHeapOutWrong)

/-- 'laws.FnExactHeapOver': WHATEVER THE INPUT: true; the input reads as it did. -/
def fnExactHeapOverSpec : ChangeSpec := { name := "fnExactHeapOver", fn := fun _ => fun
  | [d1, d2, d3] => { results := [.lit (.bool true)], args := [d1, d2, d3] }
  | _ => none }
def fnExactHeapOverRow : OpenClaim := { program := "ytbbnjbichjhmoaagreat", sum := "21afdc1c50748fd516794521bbb4b04393d5e91ba2e7cbd11edc809c652ac982", func := "loop.example/gemel/laws.FnExactHeapOver", spec := "fnExactHeapOver", unfollowed := true, recurses := true, apart := false }
def FnExactHeapOverSaid : Prop := fnExactHeapOverRow.holds Tryz.pinned (OpenSpec.ofChange fnExactHeapOverSpec)

/-- ITS FALSE NEIGHBOUR: 'it returns false'. Refute it at one input. -/
def fnExactHeapOverWrong : ChangeSpec := { name := "fnExactHeapOver", fn := fun _ => fun
  | [d1, d2, d3] => { results := [.lit (.bool false)], args := [d1, d2, d3] }
  | _ => none }
def FnExactHeapOverWrongFalsely : Prop := fnExactHeapOverRow.holds Tryz.pinned (OpenSpec.ofChange fnExactHeapOverWrong)

/- THE SECOND FORM. 'bulk': how many values and letters a reading holds, each counted each time it is reached (what is shared counts as often as it is met; a slice's spare places count too). A statement '..UptoSaid' is the law's where the arguments, and the package variables that the reading takes, are together of bulk at most 1048576: NARROWER than '..Said'. Prove '..Said' where nothing that the law and all that it calls make is longer than what came in: it says more and counts as full. Else prove '..UptoSaid'. A law counts once. -/
mutual
def uptoBulk {H : Type} : DataW H → Nat
  | .lit (.string bytes) => bytes.length + 1
  | .lit _ => 1
  | .nil => 1
  | .ptr d => uptoBulk d + 1
  | .slice elems spare => uptoBulkAll elems + uptoBulkAll spare + 1
  | .agg parts => uptoBulkAll parts + 1
  | .iface _ d => uptoBulk d + 1
  | .map entries => uptoBulkEntries entries + 1
  | .held _ => 1
def uptoBulkAll {H : Type} : List (DataW H) → Nat
  | [] => 0
  | d :: r => uptoBulk d + uptoBulkAll r
def uptoBulkEntries {H : Type} : List (Lit × DataW H) → Nat
  | [] => 0
  | x :: r => uptoBulkEntry x + uptoBulkEntries r
def uptoBulkEntry {H : Type} : Lit × DataW H → Nat
  | (.string bytes, d) => bytes.length + uptoBulk d + 1
  | (_, d) => uptoBulk d + 1
 end
def uptoSmall : (H : Type) → List (DataW H) → Bool := fun _ ds => decide (uptoBulkAll ds ≤ 1048576)
def OpenSpec.upto (s : _root_.Go.ChangeSpec) : _root_.Go.OpenSpec := { _root_.Go.OpenSpec.ofChange s with cond := some uptoSmall }

/-- 'laws.FnWalkOut', WHERE WHAT IT READS IS OF BULK AT MOST 1048576: true; the input reads as it did. -/
def fnWalkOutUptoRow : OpenClaim := { program := "ytbbnjbichjhmoaagreat", sum := "21afdc1c50748fd516794521bbb4b04393d5e91ba2e7cbd11edc809c652ac982", func := "loop.example/gemel/laws.FnWalkOut", spec := "fnWalkOut", unfollowed := true, recurses := true, apart := false, narrowed := true }
def FnWalkOutUptoSaid : Prop := fnWalkOutUptoRow.holds Tryz.pinned (OpenSpec.upto fnWalkOutSpec)

/-- 'laws.FnWalkOutTwice', WHERE WHAT IT READS IS OF BULK AT MOST 1048576: true; the input reads as it did. -/
def fnWalkOutTwiceUptoRow : OpenClaim := { program := "ytbbnjbichjhmoaagreat", sum := "21afdc1c50748fd516794521bbb4b04393d5e91ba2e7cbd11edc809c652ac982", func := "loop.example/gemel/laws.FnWalkOutTwice", spec := "fnWalkOutTwice", unfollowed := true, recurses := true, apart := false, narrowed := true }
def FnWalkOutTwiceUptoSaid : Prop := fnWalkOutTwiceUptoRow.holds Tryz.pinned (OpenSpec.upto fnWalkOutTwiceSpec)

/-- 'laws.FnExactMachMethods', WHERE WHAT IT READS IS OF BULK AT MOST 1048576: true; the input reads as it did. -/
def fnExactMachMethodsUptoRow : OpenClaim := { program := "ytbbnjbichjhmoaagreat", sum := "21afdc1c50748fd516794521bbb4b04393d5e91ba2e7cbd11edc809c652ac982", func := "loop.example/gemel/laws.FnExactMachMethods", spec := "fnExactMachMethods", unfollowed := true, recurses := true, apart := false, narrowed := true }
def FnExactMachMethodsUptoSaid : Prop := fnExactMachMethodsUptoRow.holds Tryz.pinned (OpenSpec.upto fnExactMachMethodsSpec)

/-- 'laws.FnWalkOver', WHERE WHAT IT READS IS OF BULK AT MOST 1048576: true; the input reads as it did. -/
def fnWalkOverUptoRow : OpenClaim := { program := "ytbbnjbichjhmoaagreat", sum := "21afdc1c50748fd516794521bbb4b04393d5e91ba2e7cbd11edc809c652ac982", func := "loop.example/gemel/laws.FnWalkOver", spec := "fnWalkOver", unfollowed := true, recurses := true, apart := false, narrowed := true }
def FnWalkOverUptoSaid : Prop := fnWalkOverUptoRow.holds Tryz.pinned (OpenSpec.upto fnWalkOverSpec)

/-- 'laws.FnWalkOverRun', WHERE WHAT IT READS IS OF BULK AT MOST 1048576: true; the input reads as it did. -/
def fnWalkOverRunUptoRow : OpenClaim := { program := "ytbbnjbichjhmoaagreat", sum := "21afdc1c50748fd516794521bbb4b04393d5e91ba2e7cbd11edc809c652ac982", func := "loop.example/gemel/laws.FnWalkOverRun", spec := "fnWalkOverRun", unfollowed := true, recurses := true, apart := false, narrowed := true }
def FnWalkOverRunUptoSaid : Prop := fnWalkOverRunUptoRow.holds Tryz.pinned (OpenSpec.upto fnWalkOverRunSpec)

/-- 'laws.FnWalkOutRun', WHERE WHAT IT READS IS OF BULK AT MOST 1048576: true; the input reads as it did. -/
def fnWalkOutRunUptoRow : OpenClaim := { program := "ytbbnjbichjhmoaagreat", sum := "21afdc1c50748fd516794521bbb4b04393d5e91ba2e7cbd11edc809c652ac982", func := "loop.example/gemel/laws.FnWalkOutRun", spec := "fnWalkOutRun", unfollowed := true, recurses := true, apart := false, narrowed := true }
def FnWalkOutRunUptoSaid : Prop := fnWalkOutRunUptoRow.holds Tryz.pinned (OpenSpec.upto fnWalkOutRunSpec)

/-- 'laws.FnExactHeapOut', WHERE WHAT IT READS IS OF BULK AT MOST 1048576: true; the input reads as it did. -/
def fnExactHeapOutUptoRow : OpenClaim := { program := "ytbbnjbichjhmoaagreat", sum := "21afdc1c50748fd516794521bbb4b04393d5e91ba2e7cbd11edc809c652ac982", func := "loop.example/gemel/laws.FnExactHeapOut", spec := "fnExactHeapOut", unfollowed := true, recurses := true, apart := false, narrowed := true }
def FnExactHeapOutUptoSaid : Prop := fnExactHeapOutUptoRow.holds Tryz.pinned (OpenSpec.upto fnExactHeapOutSpec)

/-- 'laws.FnExactHeapOver', WHERE WHAT IT READS IS OF BULK AT MOST 1048576: true; the input reads as it did. -/
def fnExactHeapOverUptoRow : OpenClaim := { program := "ytbbnjbichjhmoaagreat", sum := "21afdc1c50748fd516794521bbb4b04393d5e91ba2e7cbd11edc809c652ac982", func := "loop.example/gemel/laws.FnExactHeapOver", spec := "fnExactHeapOver", unfollowed := true, recurses := true, apart := false, narrowed := true }
def FnExactHeapOverUptoSaid : Prop := fnExactHeapOverUptoRow.holds Tryz.pinned (OpenSpec.upto fnExactHeapOverSpec)

end Rows
end Go.Proofs.YtbbnjbichjhmoaaGreat
