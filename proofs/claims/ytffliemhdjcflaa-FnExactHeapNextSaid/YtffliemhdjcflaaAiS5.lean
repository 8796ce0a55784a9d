/- Operations that answer a value and leave the world alone: the theorem. -/
import Derived.Test.YtffliemhdjcflaaAiS4
set_option linter.unusedVariables false
set_option linter.unusedSimpArgs false
namespace Go.Ai
variable {M : SM}
section
variable {bx : List Nat} {N : Nat} {C0 : Cx} {w0 : World} {L : Nat → Prop} {C : Cx} {β : Nat → Nat} {fr : Fr} {G G' : AG} {a : Act} {w : World}
variable {call : CallF} {mt : Nat → Nat → Option Nat} {o : Oper} {v : AVal}

/-- What is read at an address. -/
theorem run_load_any (h : St M bx N C0 w0 L C β fr G a w) {k : Option Nat} {t : TypeId} (ht : LdT M.P k t) {x : Opd} {X : Operand} (hx : OpR M x X)
    (he : evOp call mt fr G (.load k x) = some (v, G')) : ∃ V, (Instr.loadAt t (a.eval X)).run M.P w = .ok V w ∧ VR M C v V ∧ G' = G := by
  have hX := h.ev hx
  simp only [evOp] at he
  generalize x.ev fr = u at hX he
  cases u <;> simp only at he <;> try (cases he; done)
  case ptr id i c =>
    simp only [Option.bind_eq_some_iff] at he
    obtain ⟨es, h1, e, h2, v', h3, h4⟩ := he
    injection h4 with h4; injection h4 with h4 h5
    subst h4 h5
    obtain ⟨hlt, cur, ty, hb, ho⟩ := h.gr.ob id es h1
    have hcs := ho.el i e h2
    have hXv : VR M C (.ptr id i c) (a.eval X) := hX
    cases hA : a.eval X <;> rw [hA] at hXv <;> cases hXv
    obtain ⟨V, hr, hv⟩ := run_loadVar (P := M.P) ht h3 hb hcs.2
    exact ⟨V, by simp [Instr.loadAt, Instr.sureAddr, hr], hv, rfl⟩
  case pptr d c =>
    split at he
    · rename_i cs hd
      simp only [Option.bind_eq_some_iff] at he
      obtain ⟨v', h3, h4⟩ := he
      injection h4 with h4; injection h4 with h4 h5
      subst h4 h5
      obtain ⟨_, _, ⟨cur, ty, hb, _, hcs⟩, _⟩ := h.box d cs hd
      obtain ⟨V, hr, hv⟩ := run_loadVar (P := M.P) ht h3 hb hcs
      refine ⟨V, ?_, hv, rfl⟩
      rw [hX.1]
      simp only [Nat.zero_add] at hr
      simp [Instr.loadAt, Instr.sureAddr, hr]
    · cases he
  case iptr es i c =>
    simp only [Option.bind_eq_some_iff] at he
    obtain ⟨e, h2, v', h3, h4⟩ := he
    injection h4 with h4; injection h4 with h4 h5
    subst h4 h5
    have hXv : VR M C (.iptr es i c) (a.eval X) := hX
    cases hA : a.eval X <;> rw [hA] at hXv <;> cases hXv
    rename_i z b p hz0 hz hex hv
    have hel : e.length = z := hz e (List.mem_of_getElem? h2)
    obtain ⟨y, hy, _⟩ := hex i e 0 h2 hz0
    simp only [Cx.at, Option.bind_eq_some_iff] at hy
    obtain ⟨arr, harr, _⟩ := hy
    obtain ⟨⟨ty, f, hb⟩, _⟩ := h.gr.im b arr harr
    have hcs : CsR M C e arr (p + i * z) := by
      refine ⟨?_, fun c x y hx hy => ?_⟩
      · obtain ⟨y, hy, _⟩ := hex i e (e.length - 1) h2 (by omega)
        simp only [Cx.at, harr, Option.bind_some] at hy
        have := (Array.getElem?_eq_some_iff.1 hy).1
        omega
      · have hc : c < z := by rw [← hel]; exact (List.getElem?_eq_some_iff.1 hx).1
        obtain ⟨y', hy', h1⟩ := hex i e c h2 hc
        have hy2 : C.at b (p + (i * z + c)) = some y := by simp only [Cx.at, harr, Option.bind_some]; rw [← Nat.add_assoc]; exact hy
        rw [hy2] at hy'; injection hy' with hy'; subst hy'
        exact ⟨hv i e c x y h2 hx hy2, h1⟩
    obtain ⟨V, hr, hv'⟩ := run_loadVar (P := M.P) ht h3 hb hcs
    refine ⟨V, ?_, hv', rfl⟩
    simp only [Nat.add_assoc] at hr
    simp [Instr.loadAt, Instr.sureAddr, hr]
end
end Go.Ai
