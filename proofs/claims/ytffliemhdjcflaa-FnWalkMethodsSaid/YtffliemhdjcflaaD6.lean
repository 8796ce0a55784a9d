/- How deep a heap is; the program's HeapOut and HeapOver. Nothing read only is left by the program's copies; its HeapOut and HeapOver. The program's HeapOut and HeapOver. Marks on an owned heap, and what is held of it. The law FnExactHeapOut, as a run of the lowered program. -/
import Derived.Test.YtffliemhdjcflaaD5
set_option linter.unusedSimpArgs false
set_option linter.unusedVariables false
namespace Go.Ai
attribute [local simp] cnd_ite gS_ite callBy_whole
section
variable {mt : Nat → Nat → Option Nat}
theorem ml_26 (h : GHeap) (hl : h.calls.length ≤ 2097152) (k : Nat) (S : List KF) (hR : ∀ fr m, k ≤ m → fr 2 = vi 0 → Gv k (vi 0) (unw AP mt .ret fr ⟨m, noObj⟩ S))
    (hE : ∀ fr m (x : Int), k ≤ m → fr 3 = vi x → Gv k (vi x) (unw AP mt (.exit 0) fr ⟨m, noObj⟩ S)) :
    ∀ (f : Nat) (at' : Int) (out : List Int) (n : Nat), f + out.length = h.calls.length → k ≤ n →
      Gv k (vi (chainF h.calls f at' out).length) (evS AP mt (.loop l_26_0) (upd (upd (upd fr0 4 (vi at')) 3 (vi out.length)) 1 (.pbox [lCall h.calls, vi h.now, vi h.born, lVal h.said, vi h.code])) ⟨n, noObj⟩ S) := by
  intro f
  induction f with
  | zero =>
    intro at' out n hf hn
    rw [S_loop]
    by_cases ha : at' < 0
    · have ha' : ¬ 0 ≤ at' := by omega
      simp [u_26_0, b_26_0, ha, ha', chainF]
      exact hE _ _ _ hn (by simp)
    · have ha' : 0 ≤ at' := by omega
      have hwr : IntKind.i64.wrap ((out.length : Int) + 1) = out.length + 1 := wrap_id (by omega) (by omega)
      have hc : (h.calls.length : Int) < out.length + 1 := by omega
      simp only [chainF, if_neg ha]
      by_cases hb : (h.calls.length : Int) ≤ at'
      · simp [u_26_0, b_26_0, ha', hwr, hb]
        exact hR _ _ hn (by simp)
      · simp [u_26_0, b_26_0, ha', hwr, hb, hc]
        exact hR _ _ hn (by simp)
  | succ f ih =>
    intro at' out n hf hn
    rw [S_loop]
    by_cases ha : at' < 0
    · have ha' : ¬ 0 ≤ at' := by omega
      simp [u_26_0, b_26_0, ha, ha', chainF]
      exact hE _ _ _ hn (by simp)
    have ha' : 0 ≤ at' := by omega
    have hwr : IntKind.i64.wrap ((out.length : Int) + 1) = out.length + 1 := wrap_id (by omega) (by omega)
    have hc : ¬ (h.calls.length : Int) < out.length + 1 := by omega
    by_cases hb : (h.calls.length : Int) ≤ at'
    · simp only [chainF, if_neg ha, if_pos hb]
      simp [u_26_0, b_26_0, ha', hwr, hb]
      exact hR _ _ hn (by simp)
    obtain ⟨c, hcc⟩ : ∃ c, h.calls[at'.toNat]? = some c := ⟨_, List.getElem?_eq_getElem (by omega)⟩
    have hix := fun g => idx_ok (g := g) (k := .i64) (w_Call h.calls) (show (0:Int) ≤ at' by omega) (by simp; omega)
    simp only [chainF, if_neg ha, if_neg hb, hcc]
    cases hd : c.dead
    · have hi := ih c.sender (out ++ [at']) n (by simp; omega) hn
      rw [show (((out ++ [at']).length : Nat) : Int) = (out.length : Int) + 1 by simp] at hi
      simp [u_26_0, b_26_0, ha', hwr, hb, hc, hix, hcc, hd]
      simpa using hi
    · simp [u_26_0, b_26_0, ha', hwr, hb, hc, hix, hcc, hd]
      exact hR _ _ hn (by simp)
theorem m_26 (h : GHeap) (hl : h.calls.length ≤ 2097152) : Q mt 26 [aHeap h] (vi (deepS h)) := by
  refine Q.of rfl (fun k => ?_)
  rw [run_evS AP_26 _ _ rfl]
  simp [c_26]
  refine ml_26 (mt := mt) h hl k _ (fun fr m hm h2 => ?_) (fun fr m x hm h3 => ?_) h.calls.length h.now [] k (by simp) (Nat.le_refl _)
  · simp [h2]; exact Gv.some hm rfl
  · simp [h3]; exact Gv.some hm rfl
end
section
variable {k n : Nat} {Z : Heap'} {A B : List Nat} {o : Nat} {p : GProg} {h : GHeap} {g : Heap'} {ow : Ow} {cv sv : AVal}
end
section
variable {k : Nat} {Z : Heap'} {A B : List Nat} {o : Nat} {p : GProg}
end
end Go.Ai
set_option linter.unusedSimpArgs false
set_option linter.unusedVariables false
namespace Go.Ai
attribute [local simp] cnd_ite gS_ite callBy_whole
section
variable {mt : Nat → Nat → Option Nat}
end
end Go.Ai
set_option linter.unusedSimpArgs false
set_option linter.unusedVariables false
namespace Go.Ai
attribute [local simp] cnd_ite gS_ite callBy_whole
/-- A heap that is answered, owned; nothing in memory is read only. -/
def OutHB (k : Nat) (A B : List Nat) (h : GHeap) (F : AVal → AVal) (x : R) : Prop := ∃ cv sv m g ow, x = some (F (.agg [cv, vi h.now, vi h.born, sv, vi h.code]), ⟨m, g⟩) ∧ k ≤ m ∧ Own g ow A (lCall h.calls) cv ∧ Own g ow B (lVal h.said) sv ∧
  (∀ id q, ow id = some q → k ≤ id ∧ id < m ∧ (A <+: q ∨ B <+: q)) ∧ (∀ id, id < k → g id = none) ∧ noImmO g
section
variable {k : Nat} {Z : Heap'} {A B : List Nat} {p : GProg} {h : GHeap} {g : Heap'} {ow : Ow} {cv sv : AVal}
/-- A whole run of overHeap leaves such a heap. -/
def Over (k : Nat) (Z : Heap') (A B : List Nat) (h : GHeap) (x : R) : Prop := ∃ cv sv n g ow o, x = some (.agg [cv, vi h.now, vi h.born, sv, vi h.code], ⟨n, g⟩) ∧ HW k Z A B [] o h n g ow cv sv
end
theorem Over.out {k k0 : Nat} {A B : List Nat} {h : GHeap} {Z g : Heap'} {n : Nat} {o : Nat} {ow : Ow} {cv sv : AVal} (W : HW k Z A B [] o h n g ow cv sv) (hk : k0 ≤ k) (hZ : ∀ id, id < k0 → Z id = none) (F : AVal → AVal) : OutHB k0 A B h F (some (F (.agg [cv, vi h.now, vi h.born, sv, vi h.code]), ⟨n, g⟩)) :=
  ⟨cv, sv, n, g, ow, rfl, by have := W.kn; omega, W.c, W.s, fun id q hq => by have := W.f id q hq; exact ⟨by omega, this.2⟩, fun id hid => by rw [W.z id (by omega)]; exact hZ id hid, W.ni rfl⟩
end Go.Ai
set_option linter.unusedSimpArgs false
set_option linter.unusedVariables false
namespace Go.Ai
variable {mt : Nat → Nat → Option Nat}
attribute [local simp] cnd_ite gS_ite callBy_whole
section
variable {H H' : Heap'} {W : Ow}
end
end Go.Ai
set_option linter.unusedSimpArgs false
set_option linter.unusedVariables false
namespace Go.Ai
attribute [local simp] cnd_ite gS_ite callBy_whole
theorem ShH.zero : ShH zeroH := ⟨by simp [zeroH], fun c hc => by simp [zeroH] at hc, by simp [zeroH]⟩
end Go.Ai
