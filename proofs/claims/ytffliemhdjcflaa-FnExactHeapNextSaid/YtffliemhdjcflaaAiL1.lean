/- The laws' measures: each is some number. Written by a program of this claim (gen_sz.py). -/
import Derived.Test.YtffliemhdjcflaaAiE
import Derived.Test.YtffliemhdjcflaaAiP
set_option linter.unusedSimpArgs false
set_option linter.unusedVariables false
namespace Go.Ai
variable {mt : Nat → Nat → Option Nat}
attribute [local simp] cnd_ite gS_ite

def Bd (x : Int) : Prop := -1 ≤ x ∧ x ≤ 1048576
theorem drop_cons {α : Type} {l : List α} {i : Nat} {x : α} (h : l[i]? = some x) : l.drop i = x :: l.drop (i + 1) := by
  obtain ⟨hi, rfl⟩ := List.getElem?_eq_some_iff.1 h
  exact List.drop_eq_getElem_cons hi
/-- A call that sees nothing of the heap answers v. -/
def Q (mt : Nat → Nat → Option Nat) (f : Nat) (as : List AVal) (v : AVal) : Prop := ∀ G : AG, callBy (run AP mt) (.alone false true) f as G = some (v, ⟨nxt AP mt f as G.next, G.obj⟩)
theorem Q.of {f : Nat} {as : List AVal} {v : AVal} (ha : frzs noObj as = some as) (h : ∀ k, Gv k v (run AP mt f as ⟨k, noObj⟩)) : Q mt f as v := fun G => q_of ha h G
theorem z_86 (l : List GOp) (left : Int) (h1 : 0 ≤ left ∧ left ≤ 1048576) (h2 : l.length ≤ 9223372036854775807) : ∃ x, Bd x ∧ (0 ≤ x → l.length ≤ 1048576) ∧ Q mt 86 [lOp l, vi left] (vi x) := by
  have hw : IntKind.i64.wrap (left - l.length) = left - l.length := wrap_id (by omega) (by omega)
  refine ⟨if left - l.length < 0 then -1 else left - l.length, by unfold Bd; split <;> omega, fun h => by split at h <;> omega, Q.of rfl (fun k => ?_)⟩
  rw [run_evS AP_86 _ _ rfl]
  simp [c_86, hw]
  refine Gv.ite (fun h => ?_) (fun h => ?_)
  · exact Gv.some (Nat.le_refl _) (by simp [frz, h])
  · exact Gv.some (Nat.le_refl _) (by simp [frz, h])
theorem z_30 (l : List GVal) (left : Int) (h1 : 0 ≤ left ∧ left ≤ 1048576) (h2 : l.length ≤ 9223372036854775807) : ∃ x, Bd x ∧ (0 ≤ x → l.length ≤ 1048576) ∧ Q mt 30 [lVal l, vi left] (vi x) := by
  have hw : IntKind.i64.wrap (left - l.length) = left - l.length := wrap_id (by omega) (by omega)
  refine ⟨if left - l.length < 0 then -1 else left - l.length, by unfold Bd; split <;> omega, fun h => by split at h <;> omega, Q.of rfl (fun k => ?_)⟩
  rw [run_evS AP_30 _ _ rfl]
  simp [c_30, hw]
  refine Gv.ite (fun h => ?_) (fun h => ?_)
  · exact Gv.some (Nat.le_refl _) (by simp [frz, h])
  · exact Gv.some (Nat.le_refl _) (by simp [frz, h])
theorem z_60 (m : GMethod) (left : Int) (h1 : 0 ≤ left ∧ left ≤ 1048576) (h2 : m.ops.length ≤ 9223372036854775807) : ∃ x, Bd x ∧ (0 ≤ x → m.ops.length ≤ 1048576) ∧ Q mt 60 [aMethod m, vi left] (vi x) := by
  obtain ⟨x, hx, hs, hq⟩ := z_86 (mt := mt) m.ops left h1 h2
  refine ⟨if x < 0 then -1 else x, by unfold Bd at *; split <;> omega, fun h => hs (by split at h <;> omega), Q.of rfl (fun k => ?_)⟩
  rw [run_evS AP_60 _ _ rfl]
  unfold Q at hq
  simp [c_60, hq]
  refine Gv.ite (fun h => ?_) (fun h => ?_)
  · exact Gv.some (le_nxt (Nat.le_refl _)) (by simp [frz, h])
  · exact Gv.some (le_nxt (Nat.le_refl _)) (by simp [frz, h])
theorem z_61 (m : GCall) (left : Int) (h1 : 0 ≤ left ∧ left ≤ 1048576) (h2 : m.temps.length ≤ 9223372036854775807 ∧ m.stack.length ≤ 9223372036854775807) : ∃ x, Bd x ∧ (0 ≤ x → m.temps.length ≤ 1048576 ∧ m.stack.length ≤ 1048576) ∧ Q mt 61 [aCall m, vi left] (vi x) := by
  obtain ⟨x, hx, hs1, hq⟩ := z_30 (mt := mt) m.temps left h1 h2.1
  rcases Int.lt_or_le x 0 with hn | hn
  · refine ⟨-1, by unfold Bd; omega, fun h => by omega, Q.of rfl (fun k => ?_)⟩
    rw [run_evS AP_61 _ _ rfl]
    unfold Q at hq
    simp [c_61, hq, hn]
    exact Gv.some (le_nxt (Nat.le_refl _)) (by simp [frz])
  · obtain ⟨y, hy, hs2, hr⟩ := z_30 (mt := mt) m.stack x ⟨hn, hx.2⟩ h2.2
    have hn' : ¬ x < 0 := by omega
    refine ⟨if y < 0 then -1 else y, by unfold Bd at *; split <;> omega, fun h => by
      have hs1 := hs1 hn
      have hs2 := hs2 (by split at h <;> omega)
      exact ⟨hs1, hs2⟩, Q.of rfl (fun k => ?_)⟩
    rw [run_evS AP_61 _ _ rfl]
    unfold Q at hq hr
    simp [c_61, hq, hr, hn']
    refine Gv.ite (fun h => ?_) (fun h => ?_)
    · exact Gv.some (le_nxt (le_nxt (Nat.le_refl _))) (by simp [frz, h])
    · exact Gv.some (le_nxt (le_nxt (Nat.le_refl _))) (by simp [frz, h])
theorem zl_28 (ms : List GMethod) (hl : ms.length ≤ 9223372036854775807) (hs : ∀ m ∈ ms, m.ops.length ≤ 9223372036854775807) : ∀ (j i : Nat) (left : Int), i + j = ms.length → 0 ≤ left ∧ left ≤ 1048576 →
    ∃ x, Bd x ∧ (0 ≤ x → ∀ t m, i ≤ t → ms[t]? = some m → m.ops.length ≤ 1048576) ∧ ∀ (k n : Nat) (S : List KF), k ≤ n → (∀ fr m, k ≤ m → fr 4 = vi x → Gv k (vi x) (unw AP mt .ret fr ⟨m, noObj⟩ S)) → (∀ fr m, k ≤ m → fr 1 = vi x → Gv k (vi x) (unw AP mt (.exit 0) fr ⟨m, noObj⟩ S)) →
      Gv k (vi x) (evS AP mt (.loop l_28_0) (upd (upd (upd fr0 5 (vi i)) 1 (vi left)) 0 (lMethod ms)) ⟨n, noObj⟩ S) := by
  intro j
  induction j with
  | zero =>
    intro i left hij hb
    refine ⟨left, ⟨by omega, hb.2⟩, fun _ t m ht hm => by have := (List.getElem?_eq_some_iff.1 hm).1; omega, fun k n S hn hR hE => ?_⟩
    rw [S_loop]
    have hc : ¬ ((i : Int) < ms.length) := by omega
    simp [u_28_0, b_28_0, hc]
    exact hE _ _ hn (by simp)
  | succ j ih =>
    intro i left hij hb
    have hlt : i < ms.length := by omega
    obtain ⟨m, hm⟩ : ∃ m, ms[i]? = some m := ⟨_, List.getElem?_eq_getElem hlt⟩
    have hc : (i : Int) < ms.length := by omega
    have hw : IntKind.i64.wrap ((i : Int) + 1) = (i : Int) + 1 := wrap_id (by omega) (by omega)
    have hix := idx_ok (g := noObj) (k := .i64) (w_Method ms) (show (0:Int) ≤ i by omega) (by simpa using hc)
    obtain ⟨x, hx, hsx, hq⟩ := z_60 (mt := mt) m left hb (hs m (List.mem_of_getElem? hm))
    unfold Q at hq
    rcases Int.lt_or_le x 0 with hneg | hneg
    · refine ⟨-1, by unfold Bd; omega, fun h => by omega, fun k n S hn hR hE => ?_⟩
      rw [S_loop]
      simp [u_28_0, b_28_0, hc, hix, hm, hq, hw, hneg]
      exact hR _ _ (le_nxt hn) (by simp)
    · have hneg' : ¬ x < 0 := by omega
      obtain ⟨y, hy, hsy, hi⟩ := ih (i + 1) x (by omega) ⟨hneg, hx.2⟩
      refine ⟨y, hy, fun hy0 t m' ht hm' => by
        by_cases e : t = i
        · subst e; rw [hm] at hm'; injection hm' with hm'; subst hm'; exact hsx hneg
        · exact hsy hy0 t m' (by omega) hm', fun k n S hn hR hE => ?_⟩
      rw [S_loop]
      simp [u_28_0, b_28_0, hc, hix, hm, hq, hw, hneg']
      simpa using hi k _ S (le_nxt hn) hR hE
theorem z_28 (ms : List GMethod) (left : Int) (h1 : 0 ≤ left ∧ left ≤ 1048576) (hl : ms.length ≤ 9223372036854775807) (hs : ∀ m ∈ ms, m.ops.length ≤ 9223372036854775807) : ∃ x, Bd x ∧ (0 ≤ x → ms.length ≤ 1048576 ∧ ∀ m ∈ ms, m.ops.length ≤ 1048576) ∧ Q mt 28 [lMethod ms, vi left] (vi x) := by
  have hw : IntKind.i64.wrap (left - ms.length) = left - ms.length := wrap_id (by omega) (by omega)
  rcases Int.lt_or_le (left - ms.length) 0 with hneg | hneg
  · refine ⟨-1, by unfold Bd; omega, fun h => by omega, Q.of rfl (fun k => ?_)⟩
    rw [run_evS AP_28 _ _ rfl]
    simp [c_28, hw, hneg]
    exact Gv.some (Nat.le_refl _) (by simp [frz])
  · have hneg' : ¬ (left - ms.length < 0) := by omega
    obtain ⟨x, hx, hsx, hi⟩ := zl_28 (mt := mt) ms hl hs ms.length 0 (left - ms.length) (by omega) ⟨hneg, by omega⟩
    refine ⟨x, hx, fun h => ⟨by omega, fun m hm => by
      obtain ⟨t, ht⟩ := List.getElem?_of_mem hm
      exact hsx h t m (Nat.zero_le _) ht⟩, Q.of rfl (fun k => ?_)⟩
    rw [run_evS AP_28 _ _ rfl]
    simp [c_28, hw, hneg']
    refine hi k _ _ (Nat.le_refl _) (fun fr m hm h4 => ?_) (fun fr m hm h1 => ?_)
    · simp [h4]; exact Gv.some hm (by simp [frz])
    · simp [h1]; exact Gv.some hm (by simp [frz])
theorem zl_29 (ms : List GCall) (hl : ms.length ≤ 9223372036854775807) (hs : ∀ m ∈ ms, m.temps.length ≤ 9223372036854775807 ∧ m.stack.length ≤ 9223372036854775807) : ∀ (j i : Nat) (left : Int), i + j = ms.length → 0 ≤ left ∧ left ≤ 1048576 →
    ∃ x, Bd x ∧ (0 ≤ x → ∀ t m, i ≤ t → ms[t]? = some m → m.temps.length ≤ 1048576 ∧ m.stack.length ≤ 1048576) ∧ ∀ (k n : Nat) (S : List KF), k ≤ n → (∀ fr m, k ≤ m → fr 4 = vi x → Gv k (vi x) (unw AP mt .ret fr ⟨m, noObj⟩ S)) → (∀ fr m, k ≤ m → fr 1 = vi x → Gv k (vi x) (unw AP mt (.exit 0) fr ⟨m, noObj⟩ S)) →
      Gv k (vi x) (evS AP mt (.loop l_29_0) (upd (upd (upd fr0 5 (vi i)) 1 (vi left)) 0 (lCall ms)) ⟨n, noObj⟩ S) := by
  intro j
  induction j with
  | zero =>
    intro i left hij hb
    refine ⟨left, ⟨by omega, hb.2⟩, fun _ t m ht hm => by have := (List.getElem?_eq_some_iff.1 hm).1; omega, fun k n S hn hR hE => ?_⟩
    rw [S_loop]
    have hc : ¬ ((i : Int) < ms.length) := by omega
    simp [u_29_0, b_29_0, hc]
    exact hE _ _ hn (by simp)
  | succ j ih =>
    intro i left hij hb
    have hlt : i < ms.length := by omega
    obtain ⟨m, hm⟩ : ∃ m, ms[i]? = some m := ⟨_, List.getElem?_eq_getElem hlt⟩
    have hc : (i : Int) < ms.length := by omega
    have hw : IntKind.i64.wrap ((i : Int) + 1) = (i : Int) + 1 := wrap_id (by omega) (by omega)
    have hix := idx_ok (g := noObj) (k := .i64) (w_Call ms) (show (0:Int) ≤ i by omega) (by simpa using hc)
    obtain ⟨x, hx, hsx, hq⟩ := z_61 (mt := mt) m left hb (hs m (List.mem_of_getElem? hm))
    unfold Q at hq
    rcases Int.lt_or_le x 0 with hneg | hneg
    · refine ⟨-1, by unfold Bd; omega, fun h => by omega, fun k n S hn hR hE => ?_⟩
      rw [S_loop]
      simp [u_29_0, b_29_0, hc, hix, hm, hq, hw, hneg]
      exact hR _ _ (le_nxt hn) (by simp)
    · have hneg' : ¬ x < 0 := by omega
      obtain ⟨y, hy, hsy, hi⟩ := ih (i + 1) x (by omega) ⟨hneg, hx.2⟩
      refine ⟨y, hy, fun hy0 t m' ht hm' => by
        by_cases e : t = i
        · subst e; rw [hm] at hm'; injection hm' with hm'; subst hm'; exact hsx hneg
        · exact hsy hy0 t m' (by omega) hm', fun k n S hn hR hE => ?_⟩
      rw [S_loop]
      simp [u_29_0, b_29_0, hc, hix, hm, hq, hw, hneg']
      simpa using hi k _ S (le_nxt hn) hR hE
theorem z_29 (ms : List GCall) (left : Int) (h1 : 0 ≤ left ∧ left ≤ 1048576) (hl : ms.length ≤ 9223372036854775807) (hs : ∀ m ∈ ms, m.temps.length ≤ 9223372036854775807 ∧ m.stack.length ≤ 9223372036854775807) : ∃ x, Bd x ∧ (0 ≤ x → ms.length ≤ 1048576 ∧ ∀ m ∈ ms, m.temps.length ≤ 1048576 ∧ m.stack.length ≤ 1048576) ∧ Q mt 29 [lCall ms, vi left] (vi x) := by
  have hw : IntKind.i64.wrap (left - ms.length) = left - ms.length := wrap_id (by omega) (by omega)
  rcases Int.lt_or_le (left - ms.length) 0 with hneg | hneg
  · refine ⟨-1, by unfold Bd; omega, fun h => by omega, Q.of rfl (fun k => ?_)⟩
    rw [run_evS AP_29 _ _ rfl]
    simp [c_29, hw, hneg]
    exact Gv.some (Nat.le_refl _) (by simp [frz])
  · have hneg' : ¬ (left - ms.length < 0) := by omega
    obtain ⟨x, hx, hsx, hi⟩ := zl_29 (mt := mt) ms hl hs ms.length 0 (left - ms.length) (by omega) ⟨hneg, by omega⟩
    refine ⟨x, hx, fun h => ⟨by omega, fun m hm => by
      obtain ⟨t, ht⟩ := List.getElem?_of_mem hm
      exact hsx h t m (Nat.zero_le _) ht⟩, Q.of rfl (fun k => ?_)⟩
    rw [run_evS AP_29 _ _ rfl]
    simp [c_29, hw, hneg']
    refine hi k _ _ (Nat.le_refl _) (fun fr m hm h4 => ?_) (fun fr m hm h1 => ?_)
    · simp [h4]; exact Gv.some hm (by simp [frz])
    · simp [h1]; exact Gv.some hm (by simp [frz])
/-- Lists as long as the machine's may be. -/
structure SmP (p : GProg) : Prop where
  l : p.length ≤ 9223372036854775807
  m : ∀ m ∈ p, m.ops.length ≤ 9223372036854775807
structure SmH (h : GHeap) : Prop where
  l : h.calls.length ≤ 9223372036854775807
  c : ∀ c ∈ h.calls, c.temps.length ≤ 9223372036854775807 ∧ c.stack.length ≤ 9223372036854775807
  s : h.said.length ≤ 9223372036854775807
/-- Short lists. -/
structure ShP (p : GProg) : Prop where
  l : p.length ≤ 1048576
  m : ∀ m ∈ p, m.ops.length ≤ 1048576
structure ShH (h : GHeap) : Prop where
  l : h.calls.length ≤ 1048576
  c : ∀ c ∈ h.calls, c.temps.length ≤ 1048576 ∧ c.stack.length ≤ 1048576
  s : h.said.length ≤ 1048576
theorem z_4 (p : GProg) (left : Int) (h1 : 0 ≤ left ∧ left ≤ 1048576) (h2 : SmP p) : ∃ x, Bd x ∧ (0 ≤ x → ShP p) ∧ Q mt 4 [aProg p, vi left] (vi x) := by
  obtain ⟨x, hx, hs, hq⟩ := z_28 (mt := mt) p left h1 h2.l h2.m
  refine ⟨if x < 0 then -1 else x, by unfold Bd at *; split <;> omega, fun h => have h := hs (by split at h <;> omega); ⟨h.1, h.2⟩, Q.of rfl (fun k => ?_)⟩
  rw [run_evS AP_4 _ _ rfl]
  unfold Q at hq
  simp [c_4, hq]
  refine Gv.ite (fun h => ?_) (fun h => ?_)
  · exact Gv.some (le_nxt (Nat.le_refl _)) (by simp [frz, h])
  · exact Gv.some (le_nxt (Nat.le_refl _)) (by simp [frz, h])
theorem z_5 (m : GHeap) (left : Int) (h1 : 0 ≤ left ∧ left ≤ 1048576) (h2 : SmH m) : ∃ x, Bd x ∧ (0 ≤ x → ShH m) ∧ Q mt 5 [aHeap m, vi left] (vi x) := by
  obtain ⟨x, hx, hs1, hq⟩ := z_29 (mt := mt) m.calls left h1 h2.l h2.c
  rcases Int.lt_or_le x 0 with hn | hn
  · refine ⟨-1, by unfold Bd; omega, fun h => by omega, Q.of rfl (fun k => ?_)⟩
    rw [run_evS AP_5 _ _ rfl]
    unfold Q at hq
    simp [c_5, hq, hn]
    exact Gv.some (le_nxt (Nat.le_refl _)) (by simp [frz])
  · obtain ⟨y, hy, hs2, hr⟩ := z_30 (mt := mt) m.said x ⟨hn, hx.2⟩ h2.s
    have hn' : ¬ x < 0 := by omega
    refine ⟨if y < 0 then -1 else y, by unfold Bd at *; split <;> omega, fun h => by
      have hs1 := hs1 hn
      have hs2 := hs2 (by split at h <;> omega)
      exact ⟨hs1.1, hs1.2, hs2⟩, Q.of rfl (fun k => ?_)⟩
    rw [run_evS AP_5 _ _ rfl]
    unfold Q at hq hr
    simp [c_5, hq, hr, hn']
    refine Gv.ite (fun h => ?_) (fun h => ?_)
    · exact Gv.some (le_nxt (le_nxt (Nat.le_refl _))) (by simp [frz, h])
    · exact Gv.some (le_nxt (le_nxt (Nat.le_refl _))) (by simp [frz, h])
end Go.Ai
