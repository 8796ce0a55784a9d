/- How deep a heap is; the program's HeapOut and HeapOver. Nothing read only is left by the program's copies; its HeapOut and HeapOver. The program's HeapOut and HeapOver. Marks on an owned heap, and what is held of it. The law FnExactHeapOut, as a run of the lowered program. -/
import Derived.Test.YtffliemhdjcflaaD5
set_option linter.unusedSimpArgs false
set_option linter.unusedVariables false
namespace Go.Ai
attribute [local simp] cnd_ite gS_ite callBy_whole
section
variable {mt : Nat → Nat → Option Nat}
end
section
variable {k n : Nat} {Z : Heap'} {A B : List Nat} {o : Nat} {p : GProg} {h : GHeap} {g : Heap'} {ow : Ow} {cv sv : AVal}
end
section
variable {k : Nat} {Z : Heap'} {A B : List Nat} {o : Nat} {p : GProg}
end
end Go.Ai
set_option linter.unusedSimpArgs false
set_option linter.unusedVariables false
namespace Go.Ai
attribute [local simp] cnd_ite gS_ite callBy_whole
section
variable {mt : Nat → Nat → Option Nat}
end
end Go.Ai
set_option linter.unusedSimpArgs false
set_option linter.unusedVariables false
namespace Go.Ai
attribute [local simp] cnd_ite gS_ite callBy_whole
/-- A heap that is answered, owned; nothing in memory is read only. -/
def OutHB (k : Nat) (A B : List Nat) (h : GHeap) (F : AVal → AVal) (x : R) : Prop := ∃ cv sv m g ow, x = some (F (.agg [cv, vi h.now, vi h.born, sv, vi h.code]), ⟨m, g⟩) ∧ k ≤ m ∧ Own g ow A (lCall h.calls) cv ∧ Own g ow B (lVal h.said) sv ∧
  (∀ id q, ow id = some q → k ≤ id ∧ id < m ∧ (A <+: q ∨ B <+: q)) ∧ (∀ id, id < k → g id = none) ∧ noImmO g
section
variable {k : Nat} {Z : Heap'} {A B : List Nat} {p : GProg} {h : GHeap} {g : Heap'} {ow : Ow} {cv sv : AVal}
/-- A whole run of overHeap leaves such a heap. -/
def Over (k : Nat) (Z : Heap') (A B : List Nat) (h : GHeap) (x : R) : Prop := ∃ cv sv n g ow o, x = some (.agg [cv, vi h.now, vi h.born, sv, vi h.code], ⟨n, g⟩) ∧ HW k Z A B [] o h n g ow cv sv
end
theorem Over.out {k k0 : Nat} {A B : List Nat} {h : GHeap} {Z g : Heap'} {n : Nat} {o : Nat} {ow : Ow} {cv sv : AVal} (W : HW k Z A B [] o h n g ow cv sv) (hk : k0 ≤ k) (hZ : ∀ id, id < k0 → Z id = none) (F : AVal → AVal) : OutHB k0 A B h F (some (F (.agg [cv, vi h.now, vi h.born, sv, vi h.code]), ⟨n, g⟩)) :=
  ⟨cv, sv, n, g, ow, rfl, by have := W.kn; omega, W.c, W.s, fun id q hq => by have := W.f id q hq; exact ⟨by omega, this.2⟩, fun id hid => by rw [W.z id (by omega)]; exact hZ id hid, W.ni rfl⟩
end Go.Ai
set_option linter.unusedSimpArgs false
set_option linter.unusedVariables false
namespace Go.Ai
variable {mt : Nat → Nat → Option Nat}
attribute [local simp] cnd_ite gS_ite callBy_whole
section
variable {H H' : Heap'} {W : Ow}
end
end Go.Ai
set_option linter.unusedSimpArgs false
set_option linter.unusedVariables false
namespace Go.Ai
attribute [local simp] cnd_ite gS_ite callBy_whole
theorem ShH.zero : ShH zeroH := ⟨by simp [zeroH], fun c hc => by simp [zeroH] at hc, by simp [zeroH]⟩
end Go.Ai
