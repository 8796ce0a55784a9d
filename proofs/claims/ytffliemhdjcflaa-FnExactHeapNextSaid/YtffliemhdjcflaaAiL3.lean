/- The laws' comparisons: a thing is like itself. Written by a program of this claim (gen_eq.py). -/
import Derived.Test.YtffliemhdjcflaaAiL2
set_option linter.unusedSimpArgs false
set_option linter.unusedVariables false
namespace Go.Ai
variable {mt : Nat → Nat → Option Nat}
attribute [local simp] cnd_ite gS_ite
theorem y_10 (m : GOp)  : Q mt 10 [aOp m, aOp m] (.bool true) := by
  refine Q.of rfl (fun k => ?_)
  rw [run_evS AP_10 _ _ rfl]
  simp [c_10]
  exact Gv.some (Nat.le_refl _) (by simp [frz])
theorem y_71 (m : GVal)  : Q mt 71 [aVal m, aVal m] (.bool true) := by
  refine Q.of rfl (fun k => ?_)
  rw [run_evS AP_71 _ _ rfl]
  simp [c_71]
  exact Gv.some (Nat.le_refl _) (by simp [frz])
theorem yl_97 (ms : List GOp) (hl : ms.length ≤ 1048576)  (k : Nat) (S : List KF) (hE : ∀ fr m, k ≤ m → Gv k (.bool true) (unw AP mt (.exit 0) fr ⟨m, noObj⟩ S)) :
    ∀ (j i n : Nat), i + j = ms.length → k ≤ n → Gv k (.bool true) (evS AP mt (.loop l_97_0) (upd (upd (upd fr0 5 (vi i)) 1 (lOp ms)) 0 (lOp ms)) ⟨n, noObj⟩ S) := by
  intro j
  induction j with
  | zero =>
    intro i n hij hn
    rw [S_loop]
    have hc : ¬ ((i : Int) < ms.length) := by omega
    simp [u_97_0, b_97_0, hc]
    exact hE _ _ hn
  | succ j ih =>
    intro i n hij hn
    have hlt : i < ms.length := by omega
    obtain ⟨m, hm⟩ : ∃ m, ms[i]? = some m := ⟨_, List.getElem?_eq_getElem hlt⟩
    have hc : (i : Int) < ms.length := by omega
    have hwr : IntKind.i64.wrap ((i : Int) + 1) = (i : Int) + 1 := wrap_id (by omega) (by omega)
    have hix := fun g => idx_ok (g := g) (k := .i64) (w_Op ms) (show (0:Int) ≤ i by omega) (by simpa using hc)
    have hq := y_10 (mt := mt) m 
    unfold Q at hq
    rw [S_loop]
    have hi := ih (i + 1) (nxt AP mt 10 [aOp m, aOp m] n) (by omega) (le_nxt hn)
    simp [u_97_0, b_97_0, hc, hix, hm, hq, hwr]
    simpa using hi
theorem y_97 (ms : List GOp) (hl : ms.length ≤ 1048576)  : Q mt 97 [lOp ms, lOp ms] (.bool true) := by
  refine Q.of rfl (fun k => ?_)
  rw [run_evS AP_97 _ _ rfl]
  simp [c_97]
  refine yl_97 (mt := mt) ms hl  k _ (fun fr m hm => ?_) ms.length 0 k (by omega) (Nat.le_refl _)
  simp
  exact Gv.some hm (by simp [frz])
theorem yl_39 (ms : List GVal) (hl : ms.length ≤ 1048576)  (k : Nat) (S : List KF) (hE : ∀ fr m, k ≤ m → Gv k (.bool true) (unw AP mt (.exit 0) fr ⟨m, noObj⟩ S)) :
    ∀ (j i n : Nat), i + j = ms.length → k ≤ n → Gv k (.bool true) (evS AP mt (.loop l_39_0) (upd (upd (upd fr0 5 (vi i)) 1 (lVal ms)) 0 (lVal ms)) ⟨n, noObj⟩ S) := by
  intro j
  induction j with
  | zero =>
    intro i n hij hn
    rw [S_loop]
    have hc : ¬ ((i : Int) < ms.length) := by omega
    simp [u_39_0, b_39_0, hc]
    exact hE _ _ hn
  | succ j ih =>
    intro i n hij hn
    have hlt : i < ms.length := by omega
    obtain ⟨m, hm⟩ : ∃ m, ms[i]? = some m := ⟨_, List.getElem?_eq_getElem hlt⟩
    have hc : (i : Int) < ms.length := by omega
    have hwr : IntKind.i64.wrap ((i : Int) + 1) = (i : Int) + 1 := wrap_id (by omega) (by omega)
    have hix := fun g => idx_ok (g := g) (k := .i64) (w_Val ms) (show (0:Int) ≤ i by omega) (by simpa using hc)
    have hq := y_71 (mt := mt) m 
    unfold Q at hq
    rw [S_loop]
    have hi := ih (i + 1) (nxt AP mt 71 [aVal m, aVal m] n) (by omega) (le_nxt hn)
    simp [u_39_0, b_39_0, hc, hix, hm, hq, hwr]
    simpa using hi
theorem y_39 (ms : List GVal) (hl : ms.length ≤ 1048576)  : Q mt 39 [lVal ms, lVal ms] (.bool true) := by
  refine Q.of rfl (fun k => ?_)
  rw [run_evS AP_39 _ _ rfl]
  simp [c_39]
  refine yl_39 (mt := mt) ms hl  k _ (fun fr m hm => ?_) ms.length 0 k (by omega) (Nat.le_refl _)
  simp
  exact Gv.some hm (by simp [frz])
theorem y_69 (m : GMethod) (h : m.ops.length ≤ 1048576) : Q mt 69 [aMethod m, aMethod m] (.bool true) := by
  refine Q.of rfl (fun k => ?_)
  have q0 := y_97 (mt := mt) m.ops h
  rw [run_evS AP_69 _ _ rfl]
  unfold Q at q0
  simp [c_69, q0]
  exact Gv.some (le_nxt (Nat.le_refl _)) (by simp [frz])
theorem y_70 (m : GCall) (h : m.temps.length ≤ 1048576 ∧ m.stack.length ≤ 1048576) : Q mt 70 [aCall m, aCall m] (.bool true) := by
  refine Q.of rfl (fun k => ?_)
  have q0 := y_39 (mt := mt) m.temps h.1
  have q1 := y_39 (mt := mt) m.stack h.2
  rw [run_evS AP_70 _ _ rfl]
  unfold Q at q0 q1
  simp [c_70, q0, q1]
  exact Gv.some (le_nxt (le_nxt (Nat.le_refl _))) (by simp [frz])
theorem yl_37 (ms : List GMethod) (hl : ms.length ≤ 1048576) (hs : ∀ m ∈ ms, m.ops.length ≤ 1048576) (k : Nat) (S : List KF) (hE : ∀ fr m, k ≤ m → Gv k (.bool true) (unw AP mt (.exit 0) fr ⟨m, noObj⟩ S)) :
    ∀ (j i n : Nat), i + j = ms.length → k ≤ n → Gv k (.bool true) (evS AP mt (.loop l_37_0) (upd (upd (upd fr0 5 (vi i)) 1 (lMethod ms)) 0 (lMethod ms)) ⟨n, noObj⟩ S) := by
  intro j
  induction j with
  | zero =>
    intro i n hij hn
    rw [S_loop]
    have hc : ¬ ((i : Int) < ms.length) := by omega
    simp [u_37_0, b_37_0, hc]
    exact hE _ _ hn
  | succ j ih =>
    intro i n hij hn
    have hlt : i < ms.length := by omega
    obtain ⟨m, hm⟩ : ∃ m, ms[i]? = some m := ⟨_, List.getElem?_eq_getElem hlt⟩
    have hc : (i : Int) < ms.length := by omega
    have hwr : IntKind.i64.wrap ((i : Int) + 1) = (i : Int) + 1 := wrap_id (by omega) (by omega)
    have hix := fun g => idx_ok (g := g) (k := .i64) (w_Method ms) (show (0:Int) ≤ i by omega) (by simpa using hc)
    have hq := y_69 (mt := mt) m (hs m (List.mem_of_getElem? hm))
    unfold Q at hq
    rw [S_loop]
    have hi := ih (i + 1) (nxt AP mt 69 [aMethod m, aMethod m] n) (by omega) (le_nxt hn)
    simp [u_37_0, b_37_0, hc, hix, hm, hq, hwr]
    simpa using hi
theorem y_37 (ms : List GMethod) (hl : ms.length ≤ 1048576) (hs : ∀ m ∈ ms, m.ops.length ≤ 1048576) : Q mt 37 [lMethod ms, lMethod ms] (.bool true) := by
  refine Q.of rfl (fun k => ?_)
  rw [run_evS AP_37 _ _ rfl]
  simp [c_37]
  refine yl_37 (mt := mt) ms hl hs k _ (fun fr m hm => ?_) ms.length 0 k (by omega) (Nat.le_refl _)
  simp
  exact Gv.some hm (by simp [frz])
theorem yl_38 (ms : List GCall) (hl : ms.length ≤ 1048576) (hs : ∀ m ∈ ms, m.temps.length ≤ 1048576 ∧ m.stack.length ≤ 1048576) (k : Nat) (S : List KF) (hE : ∀ fr m, k ≤ m → Gv k (.bool true) (unw AP mt (.exit 0) fr ⟨m, noObj⟩ S)) :
    ∀ (j i n : Nat), i + j = ms.length → k ≤ n → Gv k (.bool true) (evS AP mt (.loop l_38_0) (upd (upd (upd fr0 5 (vi i)) 1 (lCall ms)) 0 (lCall ms)) ⟨n, noObj⟩ S) := by
  intro j
  induction j with
  | zero =>
    intro i n hij hn
    rw [S_loop]
    have hc : ¬ ((i : Int) < ms.length) := by omega
    simp [u_38_0, b_38_0, hc]
    exact hE _ _ hn
  | succ j ih =>
    intro i n hij hn
    have hlt : i < ms.length := by omega
    obtain ⟨m, hm⟩ : ∃ m, ms[i]? = some m := ⟨_, List.getElem?_eq_getElem hlt⟩
    have hc : (i : Int) < ms.length := by omega
    have hwr : IntKind.i64.wrap ((i : Int) + 1) = (i : Int) + 1 := wrap_id (by omega) (by omega)
    have hix := fun g => idx_ok (g := g) (k := .i64) (w_Call ms) (show (0:Int) ≤ i by omega) (by simpa using hc)
    have hq := y_70 (mt := mt) m (hs m (List.mem_of_getElem? hm))
    unfold Q at hq
    rw [S_loop]
    have hi := ih (i + 1) (nxt AP mt 70 [aCall m, aCall m] n) (by omega) (le_nxt hn)
    simp [u_38_0, b_38_0, hc, hix, hm, hq, hwr]
    simpa using hi
theorem y_38 (ms : List GCall) (hl : ms.length ≤ 1048576) (hs : ∀ m ∈ ms, m.temps.length ≤ 1048576 ∧ m.stack.length ≤ 1048576) : Q mt 38 [lCall ms, lCall ms] (.bool true) := by
  refine Q.of rfl (fun k => ?_)
  rw [run_evS AP_38 _ _ rfl]
  simp [c_38]
  refine yl_38 (mt := mt) ms hl hs k _ (fun fr m hm => ?_) ms.length 0 k (by omega) (Nat.le_refl _)
  simp
  exact Gv.some hm (by simp [frz])
theorem y_11 (m : GProg) (h : m.length ≤ 1048576) (hs : ∀ c ∈ m, c.ops.length ≤ 1048576) : Q mt 11 [aProg m, aProg m] (.bool true) := by
  refine Q.of rfl (fun k => ?_)
  have q0 := y_37 (mt := mt) m h hs
  rw [run_evS AP_11 _ _ rfl]
  unfold Q at q0
  simp [c_11, q0]
  exact Gv.some (le_nxt (Nat.le_refl _)) (by simp [frz])
theorem y_12 (m : GHeap) (h : m.calls.length ≤ 1048576) (hs : ∀ c ∈ m.calls, c.temps.length ≤ 1048576 ∧ c.stack.length ≤ 1048576) (h2 : m.said.length ≤ 1048576) : Q mt 12 [aHeap m, aHeap m] (.bool true) := by
  refine Q.of rfl (fun k => ?_)
  have q0 := y_38 (mt := mt) m.calls h hs
  have q1 := y_39 (mt := mt) m.said h2
  rw [run_evS AP_12 _ _ rfl]
  unfold Q at q0 q1
  simp [c_12, q0, q1]
  exact Gv.some (le_nxt (le_nxt (Nat.le_refl _))) (by simp [frz])
end Go.Ai
