/- Marks: what the laws write into lists, and find again. What the laws write into lists. Written by a program of this claim (gen_mark.py). What is found again of what was written. Written by a program of this claim (gen_mark.py). -/
import Derived.Test.YtffliemhdjcflaaB4
set_option linter.unusedSimpArgs false
set_option linter.unusedVariables false
namespace Go.Ai
variable {mt : Nat → Nat → Option Nat}
section
variable {α : Type}
variable {mk : Int → α → α} {cnt : α → Nat}
end
theorem pre_c {p q : List Nat} {i c c' : Nat} (h : p ++ [i, c] <+: q) (h' : p ++ [i, c'] <+: q) : c = c' := by
  obtain ⟨s, rfl⟩ := h
  obtain ⟨t, ht⟩ := h'
  simp at ht
  exact ht.1.symm
theorem callBy_whole {call : CallF} {f : Nat} {as : List AVal} {G : AG} : callBy call .whole f as G = call f as G := rfl
theorem updO_same {g : Heap'} {id : Nat} {X : Option Obj'} : updO g id X id = X := by simp [updO]
theorem set_self {es : Obj'} {i : Nat} {row : List AVal} (h : es[i]? = some row) : es.set i row = es := by
  obtain ⟨hi, rfl⟩ := List.getElem?_eq_some_iff.1 h
  exact List.set_getElem_self hi
end Go.Ai
set_option linter.unusedSimpArgs false
set_option linter.unusedVariables false
namespace Go.Ai
variable {mt : Nat → Nat → Option Nat}
attribute [local simp] cnd_ite gS_ite callBy_whole
end Go.Ai
set_option linter.unusedSimpArgs false
set_option linter.unusedVariables false
namespace Go.Ai
variable {mt : Nat → Nat → Option Nat}
attribute [local simp] cnd_ite gS_ite callBy_whole
end Go.Ai
