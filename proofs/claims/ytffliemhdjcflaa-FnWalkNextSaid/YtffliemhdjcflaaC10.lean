/- The specification's HeapNext. The program's HeapNext; the law. The methods of the calls that wait: the specification's and the program's. -/
import Derived.Test.YtffliemhdjcflaaB6
import Derived.Test.YtffliemhdjcflaaB8
import Derived.Test.YtffliemhdjcflaaB10
set_option linter.unusedSimpArgs false
set_option linter.unusedVariables false
namespace Go.Ai
variable {mt : Nat → Nat → Option Nat}
attribute [local simp] cnd_ite gS_ite
abbrev aRes (o : GOp) (b : Bool) : AVal := .tuple [aOp o, .bool b]
abbrev o0 : GOp := ⟨0, 0⟩
theorem r_31 (p : GProg) (mi pc : Int) (m : GMethod) (hm0 : 0 ≤ mi ∧ mi < p.length) (hm : p[mi.toNat]? = some m) (hpc : 0 ≤ pc) : Q mt 31 [aProg p, vi mi, vi pc] (match m.ops[pc.toNat]? with | some o => aRes o true | none => aRes o0 false) := by
  have hix := fun g => idx_ok (g := g) (k := .i64) (w_Method p) (show (0:Int) ≤ mi by omega) (by simp; omega)
  refine Q.of rfl (fun k => ?_)
  rw [run_evS AP_31 _ _ rfl]
  by_cases h : pc < m.ops.length
  · obtain ⟨o, ho⟩ : ∃ o, m.ops[pc.toNat]? = some o := ⟨_, List.getElem?_eq_getElem (by omega)⟩
    have hix2 := fun g => idx_ok (g := g) (k := .i64) (w_Op m.ops) hpc (by simp; omega)
    have h' : ¬ ((m.ops.length : Int) ≤ pc) := by omega
    rw [ho]
    simp [c_31, hix, hix2, hm, ho, h']
    exact Gv.some (Nat.le_refl _) (by simp [frz, omap])
  · have h' : (m.ops.length : Int) ≤ pc := by omega
    have ho : m.ops[pc.toNat]? = none := List.getElem?_eq_none (by omega)
    rw [ho]
    simp [c_31, hix, hm, h', o0]
    exact Gv.some (Nat.le_refl _) (by simp [frz, omap])
/-- What a heap that is ok and runs has. -/
structure Runs (p : GProg) (h : GHeap) (c : GCall) (m : GMethod) : Prop where
  hc : h.calls[h.now.toNat]? = some c
  h0 : 0 ≤ h.now
  h1 : h.now < h.calls.length
  hm : p[c.method.toNat]? = some m
  m0 : 0 ≤ c.method
  m1 : c.method < p.length
  pc0 : 0 ≤ c.pc
  pc1 : c.pc ≤ m.ops.length
theorem runs_of {p : GProg} {h : GHeap} (hok : heapOkS p h = true) (hcode : h.code = 0) : ∃ c m, Runs p h c m := by
  simp only [heapOkS, Bool.and_eq_true, decide_eq_true_eq, inR_iff, List.all_eq_true] at hok
  obtain ⟨_, ⟨h1, h2⟩, _, _, _, _, h7, h8, _⟩ := hok
  have hn : ¬ h.now < 0 := fun hn => by have := h7.2 hn; omega
  obtain ⟨c, hcc⟩ : ∃ c, h.calls[h.now.toNat]? = some c := ⟨_, List.getElem?_eq_getElem (by omega)⟩
  have hf := h8 c (List.mem_of_getElem? hcc)
  simp only [formOk, Bool.and_eq_true, inR_iff] at hf
  obtain ⟨⟨f1, f2⟩, f3⟩ := hf
  obtain ⟨m, hm⟩ : ∃ m, p[c.method.toNat]? = some m := ⟨_, List.getElem?_eq_getElem (by omega)⟩
  rw [hm] at f3
  simp only [formM, Bool.and_eq_true, inR_iff] at f3
  exact ⟨c, m, hcc, by omega, by omega, hm, f1, by omega, f3.1.1, f3.1.2⟩
/-- The next operation. -/
def nextR (p : GProg) (h : GHeap) : AVal :=
  if heapOkS p h = true ∧ h.code = 0 then match h.calls[h.now.toNat]? with
    | some c => match p[c.method.toNat]? with
      | some m => match m.ops[c.pc.toNat]? with | some o => aRes o true | none => aRes o0 false
      | none => aRes o0 false
    | none => aRes o0 false
  else aRes o0 false
theorem r_6 (p : GProg) (h : GHeap) (hp : ShP p) (hh : ShH h) : Q mt 6 [aProg p, aHeap h] (nextR p h) := by
  have q := r_25 (mt := mt) p h hp hh
  unfold Q at q
  refine Q.of rfl (fun k => ?_)
  rw [run_evS AP_6 _ _ rfl]
  by_cases h1 : heapOkS p h = true
  rotate_left
  · have h1' : heapOkS p h = false := by simpa using h1
    simp [c_6, q, h1', nextR, o0]
    exact Gv.some (by repeat (first | exact Nat.le_refl _ | apply le_nxt)) (by simp [frz, omap])
  by_cases h2 : h.code = 0
  rotate_left
  · simp [c_6, q, h1, h2, nextR, o0]
    exact Gv.some (by repeat (first | exact Nat.le_refl _ | apply le_nxt)) (by simp [frz, omap])
  obtain ⟨c, m, hr⟩ := runs_of h1 h2
  have h2' : (h.code = 0) = True := eq_true h2
  have hix := fun g => idx_ok (g := g) (k := .i64) (w_Call h.calls) hr.h0 (by simp; exact hr.h1)
  have q2 := r_31 (mt := mt) p c.method c.pc m ⟨hr.m0, hr.m1⟩ hr.hm hr.pc0
  unfold Q at q2
  have hcc := hr.hc
  have hmm := hr.hm
  cases ho : m.ops[c.pc.toNat]? with
  | none =>
    simp only [ho] at q2
    simp [c_6, q, h1, h2', nextR, hix, hcc, hmm, q2, ho, o0]
    exact Gv.some (by repeat (first | exact Nat.le_refl _ | apply le_nxt)) (by simp [frz, omap])
  | some o =>
    simp only [ho] at q2
    simp [c_6, q, h1, h2', nextR, hix, hcc, hmm, q2, ho]
    exact Gv.some (by repeat (first | exact Nat.le_refl _ | apply le_nxt)) (by simp [frz, omap])
end Go.Ai
set_option linter.unusedSimpArgs false
set_option linter.unusedVariables false
namespace Go.Ai
variable {mt : Nat → Nat → Option Nat}
attribute [local simp] cnd_ite gS_ite
theorem m_36 (p : GProg) (mi pc : Int) (m : GMethod) (hm0 : 0 ≤ mi ∧ mi < p.length) (hm : p[mi.toNat]? = some m) (hpc : 0 ≤ pc) (hml : m.ops.length ≤ 2097152) : Q mt 36 [aProg p, vi mi, vi pc] (match m.ops[pc.toNat]? with | some o => aRes o true | none => aRes o0 false) := by
  have hix := fun g => idx_ok (g := g) (k := .i64) (w_Method p) (show (0:Int) ≤ mi by omega) (by simp; omega)
  have q := fun a b c => r_66 (mt := mt) a b c
  unfold Q at q
  have hw : IntKind.i64.wrap ((m.ops.length : Int) - 1) = m.ops.length - 1 := wrap_id (by omega) (by omega)
  refine Q.of rfl (fun k => ?_)
  rw [run_evS AP_36 _ _ rfl]
  by_cases h : pc < m.ops.length
  · obtain ⟨o, ho⟩ : ∃ o, m.ops[pc.toNat]? = some o := ⟨_, List.getElem?_eq_getElem (by omega)⟩
    have hix2 := fun g => idx_ok (g := g) (k := .i64) (w_Op m.ops) hpc (by simp; omega)
    have h' : inR pc 0 (m.ops.length - 1) = true := inR_iff.2 ⟨hpc, by omega⟩
    rw [ho]
    simp [c_36, hix, hix2, hm, ho, hw, q, h']
    exact Gv.some (by repeat (first | exact Nat.le_refl _ | apply le_nxt)) (by simp [frz, omap])
  · have h' : inR pc 0 (m.ops.length - 1) = false := by
      cases e : inR pc 0 (m.ops.length - 1)
      · rfl
      · have := inR_iff.1 e; omega
    have ho : m.ops[pc.toNat]? = none := List.getElem?_eq_none (by omega)
    rw [ho]
    simp [c_36, hix, hm, hw, q, h', o0]
    exact Gv.some (by repeat (first | exact Nat.le_refl _ | apply le_nxt)) (by simp [frz, omap])
theorem m_9 (p : GProg) (h : GHeap) (hp : ShP p) (hh : ShH h) : Q mt 9 [aProg p, aHeap h] (nextR p h) := by
  have q := m_35 (mt := mt) p h hp hh
  rw [heapOk_eq] at q
  unfold Q at q
  refine Q.of rfl (fun k => ?_)
  rw [run_evS AP_9 _ _ rfl]
  by_cases h1 : heapOkS p h = true
  rotate_left
  · have h1' : heapOkS p h = false := by simpa using h1
    simp [c_9, q, h1', nextR, o0]
    exact Gv.some (by repeat (first | exact Nat.le_refl _ | apply le_nxt)) (by simp [frz, omap])
  by_cases h2 : h.code = 0
  rotate_left
  · simp [c_9, q, h1, h2, nextR, o0]
    exact Gv.some (by repeat (first | exact Nat.le_refl _ | apply le_nxt)) (by simp [frz, omap])
  obtain ⟨c, m, hr⟩ := runs_of h1 h2
  have h2' : (h.code = 0) = True := eq_true h2
  have hix := fun g => idx_ok (g := g) (k := .i64) (w_Call h.calls) hr.h0 (by simp; exact hr.h1)
  have q2 := m_36 (mt := mt) p c.method c.pc m ⟨hr.m0, hr.m1⟩ hr.hm hr.pc0 (by have := hp.m m (List.mem_of_getElem? hr.hm); omega)
  unfold Q at q2
  have hcc := hr.hc
  have hmm := hr.hm
  cases ho : m.ops[c.pc.toNat]? with
  | none =>
    simp only [ho] at q2
    simp [c_9, q, h1, h2', nextR, hix, hcc, hmm, q2, ho, o0]
    exact Gv.some (by repeat (first | exact Nat.le_refl _ | apply le_nxt)) (by simp [frz, omap])
  | some o =>
    simp only [ho] at q2
    simp [c_9, q, h1, h2', nextR, hix, hcc, hmm, q2, ho]
    exact Gv.some (by repeat (first | exact Nat.le_refl _ | apply le_nxt)) (by simp [frz, omap])
end Go.Ai
set_option linter.unusedSimpArgs false
set_option linter.unusedVariables false
namespace Go.Ai
variable {mt : Nat → Nat → Option Nat}
attribute [local simp] cnd_ite gS_ite
def methOf (calls : List GCall) (x : Int) : Int := (calls[x.toNat]?.map (·.method)).getD 0
end Go.Ai
