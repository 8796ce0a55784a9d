/- The program's heap at work: an operation takes its values. The program's heap at work: a step, up to what the operation does. The program's heap at work: each operation. The program's heap at work: looks, calls, returns. The program's heap at work: a step. -/
import Derived.Test.YtffliemhdjcflaaD4
set_option linter.unusedSimpArgs false
set_option linter.unusedVariables false
namespace Go.Ai
attribute [local simp] cnd_ite gS_ite callBy_whole
section
variable {k n : Nat} {Z : Heap'} {A B : List Nat} {o : Nat} {p : GProg} {h : GHeap} {g : Heap'} {ow : Ow} {cv sv : AVal}
variable {ci : Nat} {es : Obj'} {j : Nat} {c : GCall} {tv kv : AVal}
/-- Values taken: a list of their own. -/
def Vals (k o : Nat) (g : Heap') (ow : Ow) (l : List GVal) (v : AVal) : Prop := (l = [] ∧ v = .nils) ∨ (l ≠ [] ∧ ∃ id, v = .slice id 0 l.length ∧ g id = some (l.map eVal) ∧ ow id = none ∧ id ≠ o ∧ k ≤ id)
end
end Go.Ai
set_option linter.unusedSimpArgs false
set_option linter.unusedVariables false
namespace Go.Ai
attribute [local simp] cnd_ite gS_ite callBy_whole
section
variable {k n : Nat} {Z : Heap'} {A B : List Nat} {o : Nat} {p : GProg} {h : GHeap} {g : Heap'} {ow : Ow} {cv sv : AVal}
variable {ci : Nat} {es : Obj'} {j : Nat} {c : GCall} {tv kv : AVal}
/-- What belongs to nobody may go. -/
theorem VW.drop (V : VW k Z A B [] o h n g ow ci es sv j c tv kv) {id : Nat} (h1 : ow id = none) (h2 : id ≠ o) (h3 : k ≤ id) : VW k Z A B [] o h n (updO g id none) ow ci es sv j c tv kv := by
  have K : ∀ P, Keep g ow (updO g id none) ow P := fun P => Keep.refl.upd (fun q hq => by rw [h1] at hq; cases hq)
  have hci : id ≠ ci := by rintro rfl; rw [V.wi] at h1; cases h1
  refine ⟨⟨V.W.dj, ?_, V.W.on, V.W.ok, V.W.c.mono (K _), V.W.s.mono (K _), V.W.f, fun i hi => ?_, fun hp => ni_none (V.W.ni hp)⟩, V.hj, ?_, V.wi, V.el, V.He, V.t.mono (K _), V.s.mono (K _)⟩
  · simp only [updO]; rw [if_neg (Ne.symm h2)]; exact V.W.Ho
  · simp only [updO]; rw [if_neg (by omega)]; exact V.W.z i hi
  · simp only [updO]; rw [if_neg (Ne.symm hci)]; exact V.Hc
theorem Vals.fz {l : List GVal} {v : AVal} (V : VW k Z A B [] o h n g ow ci es sv j c tv kv) (hv : Vals k o g ow l v) : ∃ g', fzV v ⟨n, g⟩ = some (lVal l, ⟨n, g'⟩) ∧ VW k Z A B [] o h n g' ow ci es sv j c tv kv := by
  rcases hv with ⟨rfl, rfl⟩ | ⟨hne, id, rfl, h1, h2, h3, h4⟩
  · exact ⟨g, rfl, V⟩
  · refine ⟨updO g id none, ?_, V.drop h2 h3 h4⟩
    have e : (l.map eVal).take l.length = l.map eVal := List.take_of_length_le (by simp)
    simp [fzV, h1, e]
theorem Vals.ok {k o : Nat} {g : Heap'} {ow : Ow} {l : List GVal} {v : AVal} (h : Vals k o g ow l v) : Ok1 v := by
  rcases h with ⟨_, rfl⟩ | ⟨_, id, rfl, _⟩ <;> exact ⟨rfl, rfl, fun _ => rfl, rfl⟩
end
end Go.Ai
set_option linter.unusedSimpArgs false
set_option linter.unusedVariables false
namespace Go.Ai
attribute [local simp] cnd_ite gS_ite callBy_whole
section
variable {k n : Nat} {Z : Heap'} {A B : List Nat} {o : Nat} {p : GProg} {h h1 : GHeap} {g : Heap'} {ow : Ow} {c c1 : GCall} {ci : Nat} {sv tv kv : AVal} {es : Obj'} {N : Nat} {v : AVal} {n1 : Nat} {g1 g2 g3 : Heap'} {es2 es3 : Obj'} {ow3 : Ow} {kv3 : AVal} {sk : List GVal} {pc1 : Int} {as : List GVal} {l : List Int} {m : GMethod} {op : GOp}
end
end Go.Ai
set_option linter.unusedSimpArgs false
set_option linter.unusedVariables false
namespace Go.Ai
attribute [local simp] cnd_ite gS_ite callBy_whole
section
variable {k n : Nat} {Z : Heap'} {A B : List Nat} {o : Nat} {p : GProg} {h h1 : GHeap} {g : Heap'} {ow : Ow} {c c1 : GCall} {ci : Nat} {sv tv kv : AVal} {es : Obj'} {N : Nat} {v : AVal} {n1 : Nat} {g1 g2 g3 : Heap'} {es2 es3 : Obj'} {ow3 : Ow} {kv3 : AVal} {sk : List GVal} {pc1 : Int} {as : List GVal} {l : List Int} {m : GMethod} {op : GOp}
end
end Go.Ai
set_option linter.unusedSimpArgs false
set_option linter.unusedVariables false
namespace Go.Ai
attribute [local simp] cnd_ite gS_ite callBy_whole
section
variable {k n : Nat} {Z : Heap'} {A B : List Nat} {o : Nat} {p : GProg} {h : GHeap} {g : Heap'} {ow : Ow} {cv sv : AVal}
variable {ci : Nat} {es : Obj'} {j : Nat} {c : GCall} {tv kv : AVal}
end
end Go.Ai
