/- The laws' measures: each is some number. Written by a program of this claim (gen_law.py). The laws' conversions give what they are given, owned. Written by a program of this claim (gen_law.py). The laws' comparisons of a thing with itself. Written by a program of this claim (gen_law.py). -/
import Derived.Test.YtffliemhdjcflaaB2
import Derived.Test.YtffliemhdjcflaaB3
set_option linter.unusedSimpArgs false
set_option linter.unusedVariables false
namespace Go.Ai
variable {mt : Nat → Nat → Option Nat}
attribute [local simp] cnd_ite gS_ite
theorem drop_cons {α : Type} {l : List α} {i : Nat} {x : α} (h : l[i]? = some x) : l.drop i = x :: l.drop (i + 1) := by
  obtain ⟨hi, rfl⟩ := List.getElem?_eq_some_iff.1 h
  exact List.drop_eq_getElem_cons hi
/-- A call that sees nothing of the heap answers v. -/
def Q (mt : Nat → Nat → Option Nat) (f : Nat) (as : List AVal) (v : AVal) : Prop := ∀ G : AG, callBy (run AP mt) (.alone false true) f as G = some (v, ⟨nxt AP mt f as G.next, G.obj⟩)
theorem Q.of {f : Nat} {as : List AVal} {v : AVal} (ha : frzs noObj as = some as) (h : ∀ k, Gv k v (run AP mt f as ⟨k, noObj⟩)) : Q mt f as v := fun G => q_of ha h G
/-- Short lists. -/
structure ShP (p : GProg) : Prop where
  l : p.length ≤ 2097152
  m : ∀ m ∈ p, m.ops.length ≤ 2097152
structure ShH (h : GHeap) : Prop where
  l : h.calls.length ≤ 2097152
  c : ∀ c ∈ h.calls, c.temps.length ≤ 2097152 ∧ c.stack.length ≤ 2097152
  s : h.said.length ≤ 2097152
/-- What the measures let in. -/
structure TnP (p : GProg) : Prop where
  l : p.length ≤ 1048576
  m : ∀ m ∈ p, m.ops.length ≤ 1048576
structure TnH (h : GHeap) : Prop where
  l : h.calls.length ≤ 1048576
  c : ∀ c ∈ h.calls, c.temps.length ≤ 1048576 ∧ c.stack.length ≤ 1048576
  s : h.said.length ≤ 1048576
theorem TnP.sh {p : GProg} (h : TnP p) : ShP p := ⟨by have := h.l; omega, fun m hm => by have := h.m m hm; omega⟩
theorem TnH.sh {p : GHeap} (h : TnH p) : ShH p := ⟨by have := h.l; omega, fun m hm => by have := h.c m hm; omega, by have := h.s; omega⟩
end Go.Ai
set_option linter.unusedSimpArgs false
set_option linter.unusedVariables false
namespace Go.Ai
variable {mt : Nat → Nat → Option Nat}
attribute [local simp] cnd_ite gS_ite
theorem omap_id {α : Type} {f : α → Option α} : ∀ {l : List α}, (∀ x ∈ l, f x = some x) → omap f l = some l := by
  intro l
  induction l with
  | nil => intro _; rfl
  | cons x xs ih =>
    intro h
    simp only [omap, h x (List.mem_cons_self ..), ih (fun y hy => h y (List.mem_cons_of_mem _ hy)), Option.bind_some]
theorem frz_sl {d id n : Nat} {g : Heap'} {es es' : Obj'} (h : g id = some es) (hn : es.length = n) (hf : omap (omap (frz d g)) es = some es') : frz (d + 1) g (.slice id 0 n) = some (.list es') := by
  show ((g id).bind fun es0 => if 0 + n ≤ es0.length then (omap (omap (frz d g)) ((es0.drop 0).take n)).map AVal.list else none) = _
  rw [h]
  subst hn
  simp [hf]
end Go.Ai
set_option linter.unusedSimpArgs false
set_option linter.unusedVariables false
namespace Go.Ai
variable {mt : Nat → Nat → Option Nat}
attribute [local simp] cnd_ite gS_ite
end Go.Ai
