/- The program's tests of operations and programs. Written by a program of this claim (gen_m2.py). -/
import Derived.Test.YtffliemhdjcflaaAiM1
set_option linter.unusedSimpArgs false
set_option linter.unusedVariables false
namespace Go.Ai
variable {mt : Nat → Nat → Option Nat}
attribute [local simp] cnd_ite gS_ite
/-- A call that sees the heap as it is, and leaves it. -/
theorem q_T {f : Nat} {as as' : List AVal} {v : AVal} {G : AG} (ha : frzs G.obj as = some as') (ha' : frzs noObj as' = some as') (hq : Q mt f as' v) (hv : noImm v = true) :
    callBy (run AP mt) (.alone true true) f as G = some (v, ⟨nxt AP mt f as' G.next, G.obj⟩) := by
  have h := hq ⟨G.next, noObj⟩
  simp only [callBy, Bool.false_eq_true, if_false, ha', Option.bind_some, Option.bind_eq_some_iff] at h
  obtain ⟨r, hr, h⟩ := h
  simp only [callBy, if_true, ha, Option.bind_some, hr]
  split at h
  · rename_i hle
    simp only [if_true, Option.bind_eq_some_iff] at h
    obtain ⟨u, hu, h⟩ := h
    simp only [true_or, if_true] at h
    injection h with h; injection h with h1 h2
    injection h2 with h2 h3
    subst h1
    rw [if_pos hle]
    simp only [hu, Option.bind_some, hv, or_true, if_true, h2]
  · cases h
theorem mT_row (k : Int) (h : 1 ≤ k ∧ k ≤ 18) : ∃ a b c d d', mT[k.toNat]? = some [.str a, vi b, vi c, d, mOf k] ∧ (gv d = some d) ∧ (∀ n g, frz (n + 1) g d = some d') ∧ ∀ n g, frz (n + 3) g (mOf k) = some (mOf k) := by
  obtain ⟨n, rfl⟩ : ∃ n : Nat, k = n := ⟨k.toNat, by omega⟩
  simp only [Int.toNat_natCast]
  have : n = 1 ∨ n = 2 ∨ n = 3 ∨ n = 4 ∨ n = 5 ∨ n = 6 ∨ n = 7 ∨ n = 8 ∨ n = 9 ∨ n = 10 ∨ n = 11 ∨ n = 12 ∨ n = 13 ∨ n = 14 ∨ n = 15 ∨ n = 16 ∨ n = 17 ∨ n = 18 := by omega
  rcases this with h | h | h | h | h | h | h | h | h | h | h | h | h | h | h | h | h | h <;> subst h <;> exact ⟨_, _, _, _, _, rfl, rfl, fun _ _ => rfl, fun _ _ => rfl⟩
theorem m_110 (k : Int) (h : inR k 1 18 = true) : ∃ a b c d, Q mt 110 [vi k] (.tuple [.agg [.str a, vi b, vi c, d, mOf k], .bool true]) := by
  have hk := inR_iff.1 h
  obtain ⟨a, b, c, d, d', h1, _, h2, h3⟩ := mT_row k hk
  refine ⟨a, b, c, d', Q.of rfl (fun n => ?_)⟩
  have q := m_122 (mt := mt)
  have q2 := fun a b c => r_66 (mt := mt) a b c
  unfold Q at q q2
  have hix := fun g => idx_ok (g := g) (k := .i64) w_mT (show (0:Int) ≤ k by omega) (by show k < ((19 : Nat) : Int); omega)
  rw [run_evS AP_110 _ _ rfl]
  simp [c_110, q, q2, h, hix, h1]
  exact Gv.some (by repeat (first | exact Nat.le_refl _ | apply le_nxt)) (by
    have e1 := h2 5 noObj
    have e2 := h3 3 noObj
    show ((omap (frz 7 noObj) [.agg [.str a, vi b, vi c, d, mOf k], .bool true]).map AVal.tuple) = _
    have e3 : frz 7 noObj (.agg [.str a, vi b, vi c, d, mOf k]) = some (.agg [.str a, vi b, vi c, d', mOf k]) := by
      show ((omap (frz 6 noObj) [.str a, vi b, vi c, d, mOf k]).map AVal.agg) = _
      simp only [omap, e1, e2, show frz 6 noObj (.str a) = some (.str a) from rfl, show frz 6 noObj (vi b) = some (vi b) from rfl, show frz 6 noObj (vi c) = some (vi c) from rfl, Option.bind_some, Option.map_some]
    simp only [omap, e3, show frz 7 noObj (.bool true) = some (.bool true) from rfl, Option.bind_some, Option.map_some])
theorem m_110n (k : Int) (h : inR k 1 18 = false) : Q mt 110 [vi k] (.tuple [.agg [.str ⟨#[]⟩, vi 0, vi 0, .list [], .nilf], .bool false]) := by
  refine Q.of rfl (fun n => ?_)
  have q2 := fun a b c => r_66 (mt := mt) a b c
  unfold Q at q2
  rw [run_evS AP_110 _ _ rfl]
  simp [c_110, q2, h]
  exact Gv.some (by repeat (first | exact Nat.le_refl _ | apply le_nxt)) (by simp [frz, omap])
theorem mOf_cases (k : Int) : (k = 1 ∧ mOf k = mLit 100) ∨ ((k = 2 ∨ k = 3) ∧ mOf k = .func 136 []) ∨ ((k = 7 ∨ k = 8) ∧ mOf k = .func 137 []) ∨ (k = 9 ∧ mOf k = .func 138 []) ∨ ((k = 13 ∨ k = 14) ∧ mOf k = mLit 4) ∨
    ((k ≠ 1 ∧ ¬ (k = 2 ∨ k = 3) ∧ ¬ (k = 7 ∨ k = 8) ∧ k ≠ 9 ∧ ¬ (k = 13 ∨ k = 14)) ∧ mOf k = .nilf) := by
  unfold mOf
  repeat' split
  all_goals first | (left; exact ⟨by assumption, rfl⟩) | skip
  · right; left; exact ⟨by assumption, rfl⟩
  · right; right; left; exact ⟨by assumption, rfl⟩
  · right; right; right; left; exact ⟨by assumption, rfl⟩
  · right; right; right; right; left; exact ⟨by assumption, rfl⟩
  · right; right; right; right; right; exact ⟨⟨by assumption, by assumption, by assumption, by assumption, by assumption⟩, rfl⟩
theorem m_92 (p : GProg) (m : GMethod) (o : GOp) (ht : 0 ≤ m.temps ∧ m.temps ≤ 1000) (hm : m.ops.length ≤ 1048576) (hp : p.length ≤ 1048576) : Q mt 92 [aOp o, aProg p, aMethod m] (.bool (opOk p m o)) := by
  have q := fun a b c => r_66 (mt := mt) a b c
  have q5 := fun x => m_135 (mt := mt) p m x
  have q6 := m_136 (mt := mt) p m
  have q7 := m_137 (mt := mt) p m
  have q8 := m_138 (mt := mt) p m
  unfold Q at q q5 q6 q7 q8
  have hw : IntKind.i64.wrap (m.temps - 1) = m.temps - 1 := wrap_id (by omega) (by omega)
  have hw2 : IntKind.i64.wrap ((m.ops.length : Int) - 1) = m.ops.length - 1 := wrap_id (by omega) (by omega)
  have hw3 : IntKind.i64.wrap ((p.length : Int) - 1) = p.length - 1 := wrap_id (by omega) (by omega)
  have hw4 : IntKind.i64.wrap 99 = 99 := wrap_id (by omega) (by omega)
  have hw5 : IntKind.i64.wrap 3 = 3 := wrap_id (by omega) (by omega)
  refine Q.of rfl (fun k => ?_)
  rw [run_evS AP_92 _ _ rfl]
  cases h1 : inR o.kind 1 18
  · have q0 := m_110n (mt := mt) o.kind h1
    unfold Q at q0
    have hr : ¬ (1 ≤ o.kind ∧ o.kind ≤ 18) := fun h => by rw [inR_iff.2 h] at h1; cases h1
    have hf : opOk p m o = false := by
      unfold opOk
      rw [if_neg (by omega), if_neg (by omega), if_neg (by omega), if_neg (by omega), if_neg (by omega), h1]; rfl
    rw [hf]
    simp [c_92, q0]
    exact Gv.bool (by repeat (first | exact Nat.le_refl _ | apply le_nxt)) rfl
  · obtain ⟨a, b, c, d, q0⟩ := m_110 (mt := mt) o.kind h1
    unfold Q at q0
    have hr := inR_iff.1 h1
    rcases mOf_cases o.kind with ⟨hk, he⟩ | ⟨hk, he⟩ | ⟨hk, he⟩ | ⟨hk, he⟩ | ⟨hk, he⟩ | ⟨hk, he⟩ <;> rw [he] at q0
    · have hf : opOk p m o = inR o.a 0 99 := by unfold opOk; rw [if_pos hk]
      rw [hf]
      simp [c_92, q0, q, q5, mLit, hw4]
      exact Gv.bool (by repeat (first | exact Nat.le_refl _ | apply le_nxt)) rfl
    · have hf : opOk p m o = inR o.a 0 (m.temps - 1) := by unfold opOk; rw [if_neg (by omega), if_pos hk]
      rw [hf]
      simp [c_92, q0, q, q6, hw]
      exact Gv.bool (by repeat (first | exact Nat.le_refl _ | apply le_nxt)) rfl
    · have hf : opOk p m o = inR o.a 0 (m.ops.length - 1) := by unfold opOk; rw [if_neg (by omega), if_neg (by omega), if_pos hk]
      rw [hf]
      simp [c_92, q0, q, q7, hw2]
      exact Gv.bool (by repeat (first | exact Nat.le_refl _ | apply le_nxt)) rfl
    · have hf : opOk p m o = inR o.a 0 (p.length - 1) := by unfold opOk; rw [if_neg (by omega), if_neg (by omega), if_neg (by omega), if_pos hk]
      rw [hf]
      simp [c_92, q0, q, q8, hw3]
      exact Gv.bool (by repeat (first | exact Nat.le_refl _ | apply le_nxt)) rfl
    · have hf : opOk p m o = inR o.a 0 3 := by unfold opOk; rw [if_neg (by omega), if_neg (by omega), if_neg (by omega), if_neg (by omega), if_pos hk]
      rw [hf]
      simp [c_92, q0, q, q5, mLit, hw5]
      exact Gv.bool (by repeat (first | exact Nat.le_refl _ | apply le_nxt)) rfl
    · have hf : opOk p m o = decide (o.a = 0) := by unfold opOk; rw [if_neg (by omega), if_neg (by omega), if_neg (by omega), if_neg (by omega), if_neg (by omega), h1]; rfl
      rw [hf]
      simp [c_92, q0]
      exact Gv.bool (by repeat (first | exact Nat.le_refl _ | apply le_nxt)) rfl
theorem ml_109 (ms : List GOp) (hl : ms.length ≤ 1048576) (f : Nat) (caps : List AVal) (P : GOp → Bool) (hf : ∀ m ∈ ms, Q mt f (aOp m :: caps) (.bool (P m))) : ∀ (j i : Nat), i + j = ms.length →
    ∃ x : Int, ((0 ≤ x) ↔ (ms.drop i).any P = true) ∧ -1 ≤ x ∧ ∀ (k n : Nat) (S : List KF), k ≤ n → (∀ fr m, k ≤ m → fr 4 = vi x → Gv k (vi x) (unw AP mt .ret fr ⟨m, noObj⟩ S)) → (∀ fr m, k ≤ m → x = -1 → Gv k (vi x) (unw AP mt (.exit 0) fr ⟨m, noObj⟩ S)) →
      Gv k (vi x) (evS AP mt (.loop l_109_0) (upd (upd (upd (upd fr0 8 (vi i)) 7 (vi ms.length)) 1 (.func f caps)) 0 (lOp ms)) ⟨n, noObj⟩ S) := by
  intro j
  induction j with
  | zero =>
    intro i hij
    have hd : ms.drop i = [] := List.drop_eq_nil_iff.2 (by omega)
    refine ⟨-1, by simp [hd], by omega, fun k n S hn hR hE => ?_⟩
    rw [S_loop]
    have hc : ¬ ((i : Int) < ms.length) := by omega
    simp [u_109_0, b_109_0, hc]
    exact hE _ _ hn rfl
  | succ j ih =>
    intro i hij
    have hlt : i < ms.length := by omega
    obtain ⟨m, hm⟩ : ∃ m, ms[i]? = some m := ⟨_, List.getElem?_eq_getElem hlt⟩
    have hc : (i : Int) < ms.length := by omega
    have hw : IntKind.i64.wrap ((i : Int) + 1) = (i : Int) + 1 := wrap_id (by omega) (by omega)
    have hix := fun g => idx_ok (g := g) (k := .i64) (w_Op ms) (show (0:Int) ≤ i by omega) (by simpa using hc)
    have hq := hf m (List.mem_of_getElem? hm)
    unfold Q at hq
    rw [drop_cons hm]
    cases hP : P m
    · obtain ⟨y, hy, hy1, hi⟩ := ih (i + 1) (by omega)
      refine ⟨y, by simpa [hP] using hy, hy1, fun k n S hn hR hE => ?_⟩
      have hi' := fun n' h' => hi k n' S h' hR hE
      rw [show ((i + 1 : Nat) : Int) = (i : Int) + 1 from by omega] at hi'
      rw [S_loop]
      simp [u_109_0, b_109_0, hc, hix, hm, hq, hw, hP]
      exact hi' _ (le_nxt hn)
    · refine ⟨i, by simp [hP], by omega, fun k n S hn hR hE => ?_⟩
      rw [S_loop]
      simp [u_109_0, b_109_0, hc, hix, hm, hq, hw, hP]
      exact hR _ _ (le_nxt hn) (by simp)
theorem m_109 (ms : List GOp) (hl : ms.length ≤ 1048576) (f : Nat) (caps : List AVal) (hcap : omap (frz 7 noObj) caps = some caps) (P : GOp → Bool) (hf : ∀ m ∈ ms, Q mt f (aOp m :: caps) (.bool (P m))) : ∃ x : Int, ((0 ≤ x) ↔ ms.any P = true) ∧ Q mt 109 [lOp ms, .func f caps] (vi x) := by
  obtain ⟨x, hx, hx1, hi⟩ := ml_109 (mt := mt) ms hl f caps P hf ms.length 0 (by omega)
  refine ⟨x, by simpa using hx, Q.of (by simp only [frzs, omap, show frz 8 noObj (lOp ms) = some (lOp ms) from rfl, show frz 8 noObj (.func f caps) = (omap (frz 7 noObj) caps).map (.func f) from rfl, hcap, Option.map_some, Option.bind_some]) (fun k => ?_)⟩
  rw [run_evS AP_109 _ _ rfl]
  simp [c_109]
  refine hi k _ _ (Nat.le_refl _) (fun fr m hm h4 => ?_) (fun fr m hm h1 => ?_)
  · simp [h4]; exact Gv.some hm (by simp [frz])
  · simp [h1]; exact Gv.some hm (by simp [frz])
theorem m_90 (ms : List GOp) (hl : ms.length ≤ 1048576) (f : Nat) (caps : List AVal) (hcap : omap (frz 7 noObj) caps = some caps) (P : GOp → Bool) (hf : ∀ m ∈ ms, Q mt f (aOp m :: caps) (.bool (P m))) : Q mt 90 [lOp ms, .func f caps] (.bool (ms.any P)) := by
  obtain ⟨x, hx, q⟩ := m_109 (mt := mt) ms hl f caps hcap P hf
  refine Q.of (by simp only [frzs, omap, show frz 8 noObj (lOp ms) = some (lOp ms) from rfl, show frz 8 noObj (.func f caps) = (omap (frz 7 noObj) caps).map (.func f) from rfl, hcap, Option.map_some, Option.bind_some]) (fun k => ?_)
  rw [run_evS AP_90 _ _ rfl]
  unfold Q at q
  simp [c_90, q]
  refine Gv.bool (le_nxt (Nat.le_refl _)) ?_
  cases h : ms.any P
  · have : ¬ 0 ≤ x := fun h0 => by rw [hx.1 h0] at h; cases h
    simp [this]
  · have : 0 ≤ x := hx.2 h
    simp [this]
theorem ml_108 (ms : List GMethod) (hl : ms.length ≤ 1048576) (f : Nat) (caps : List AVal) (P : GMethod → Bool) (hf : ∀ m ∈ ms, Q mt f (aMethod m :: caps) (.bool (P m))) : ∀ (j i : Nat), i + j = ms.length →
    ∃ x : Int, ((0 ≤ x) ↔ (ms.drop i).any P = true) ∧ -1 ≤ x ∧ ∀ (k n : Nat) (S : List KF), k ≤ n → (∀ fr m, k ≤ m → fr 4 = vi x → Gv k (vi x) (unw AP mt .ret fr ⟨m, noObj⟩ S)) → (∀ fr m, k ≤ m → x = -1 → Gv k (vi x) (unw AP mt (.exit 0) fr ⟨m, noObj⟩ S)) →
      Gv k (vi x) (evS AP mt (.loop l_108_0) (upd (upd (upd (upd fr0 8 (vi i)) 7 (vi ms.length)) 1 (.func f caps)) 0 (lMethod ms)) ⟨n, noObj⟩ S) := by
  intro j
  induction j with
  | zero =>
    intro i hij
    have hd : ms.drop i = [] := List.drop_eq_nil_iff.2 (by omega)
    refine ⟨-1, by simp [hd], by omega, fun k n S hn hR hE => ?_⟩
    rw [S_loop]
    have hc : ¬ ((i : Int) < ms.length) := by omega
    simp [u_108_0, b_108_0, hc]
    exact hE _ _ hn rfl
  | succ j ih =>
    intro i hij
    have hlt : i < ms.length := by omega
    obtain ⟨m, hm⟩ : ∃ m, ms[i]? = some m := ⟨_, List.getElem?_eq_getElem hlt⟩
    have hc : (i : Int) < ms.length := by omega
    have hw : IntKind.i64.wrap ((i : Int) + 1) = (i : Int) + 1 := wrap_id (by omega) (by omega)
    have hix := fun g => idx_ok (g := g) (k := .i64) (w_Method ms) (show (0:Int) ≤ i by omega) (by simpa using hc)
    have hq := hf m (List.mem_of_getElem? hm)
    unfold Q at hq
    rw [drop_cons hm]
    cases hP : P m
    · obtain ⟨y, hy, hy1, hi⟩ := ih (i + 1) (by omega)
      refine ⟨y, by simpa [hP] using hy, hy1, fun k n S hn hR hE => ?_⟩
      have hi' := fun n' h' => hi k n' S h' hR hE
      rw [show ((i + 1 : Nat) : Int) = (i : Int) + 1 from by omega] at hi'
      rw [S_loop]
      simp [u_108_0, b_108_0, hc, hix, hm, hq, hw, hP]
      exact hi' _ (le_nxt hn)
    · refine ⟨i, by simp [hP], by omega, fun k n S hn hR hE => ?_⟩
      rw [S_loop]
      simp [u_108_0, b_108_0, hc, hix, hm, hq, hw, hP]
      exact hR _ _ (le_nxt hn) (by simp)
theorem m_108 (ms : List GMethod) (hl : ms.length ≤ 1048576) (f : Nat) (caps : List AVal) (hcap : omap (frz 7 noObj) caps = some caps) (P : GMethod → Bool) (hf : ∀ m ∈ ms, Q mt f (aMethod m :: caps) (.bool (P m))) : ∃ x : Int, ((0 ≤ x) ↔ ms.any P = true) ∧ Q mt 108 [lMethod ms, .func f caps] (vi x) := by
  obtain ⟨x, hx, hx1, hi⟩ := ml_108 (mt := mt) ms hl f caps P hf ms.length 0 (by omega)
  refine ⟨x, by simpa using hx, Q.of (by simp only [frzs, omap, show frz 8 noObj (lMethod ms) = some (lMethod ms) from rfl, show frz 8 noObj (.func f caps) = (omap (frz 7 noObj) caps).map (.func f) from rfl, hcap, Option.map_some, Option.bind_some]) (fun k => ?_)⟩
  rw [run_evS AP_108 _ _ rfl]
  simp [c_108]
  refine hi k _ _ (Nat.le_refl _) (fun fr m hm h4 => ?_) (fun fr m hm h1 => ?_)
  · simp [h4]; exact Gv.some hm (by simp [frz])
  · simp [h1]; exact Gv.some hm (by simp [frz])
theorem m_88 (ms : List GMethod) (hl : ms.length ≤ 1048576) (f : Nat) (caps : List AVal) (hcap : omap (frz 7 noObj) caps = some caps) (P : GMethod → Bool) (hf : ∀ m ∈ ms, Q mt f (aMethod m :: caps) (.bool (P m))) : Q mt 88 [lMethod ms, .func f caps] (.bool (ms.any P)) := by
  obtain ⟨x, hx, q⟩ := m_108 (mt := mt) ms hl f caps hcap P hf
  refine Q.of (by simp only [frzs, omap, show frz 8 noObj (lMethod ms) = some (lMethod ms) from rfl, show frz 8 noObj (.func f caps) = (omap (frz 7 noObj) caps).map (.func f) from rfl, hcap, Option.map_some, Option.bind_some]) (fun k => ?_)
  rw [run_evS AP_88 _ _ rfl]
  unfold Q at q
  simp [c_88, q]
  refine Gv.bool (le_nxt (Nat.le_refl _)) ?_
  cases h : ms.any P
  · have : ¬ 0 ≤ x := fun h0 => by rw [hx.1 h0] at h; cases h
    simp [this]
  · have : 0 ≤ x := hx.2 h
    simp [this]
theorem ml_111 (ms : List GVal) (hl : ms.length ≤ 1048576) (f : Nat) (caps : List AVal) (P : GVal → Bool) (hf : ∀ m ∈ ms, Q mt f (aVal m :: caps) (.bool (P m))) : ∀ (j i : Nat), i + j = ms.length →
    ∃ x : Int, ((0 ≤ x) ↔ (ms.drop i).any P = true) ∧ -1 ≤ x ∧ ∀ (k n : Nat) (S : List KF), k ≤ n → (∀ fr m, k ≤ m → fr 4 = vi x → Gv k (vi x) (unw AP mt .ret fr ⟨m, noObj⟩ S)) → (∀ fr m, k ≤ m → x = -1 → Gv k (vi x) (unw AP mt (.exit 0) fr ⟨m, noObj⟩ S)) →
      Gv k (vi x) (evS AP mt (.loop l_111_0) (upd (upd (upd (upd fr0 8 (vi i)) 7 (vi ms.length)) 1 (.func f caps)) 0 (lVal ms)) ⟨n, noObj⟩ S) := by
  intro j
  induction j with
  | zero =>
    intro i hij
    have hd : ms.drop i = [] := List.drop_eq_nil_iff.2 (by omega)
    refine ⟨-1, by simp [hd], by omega, fun k n S hn hR hE => ?_⟩
    rw [S_loop]
    have hc : ¬ ((i : Int) < ms.length) := by omega
    simp [u_111_0, b_111_0, hc]
    exact hE _ _ hn rfl
  | succ j ih =>
    intro i hij
    have hlt : i < ms.length := by omega
    obtain ⟨m, hm⟩ : ∃ m, ms[i]? = some m := ⟨_, List.getElem?_eq_getElem hlt⟩
    have hc : (i : Int) < ms.length := by omega
    have hw : IntKind.i64.wrap ((i : Int) + 1) = (i : Int) + 1 := wrap_id (by omega) (by omega)
    have hix := fun g => idx_ok (g := g) (k := .i64) (w_Val ms) (show (0:Int) ≤ i by omega) (by simpa using hc)
    have hq := hf m (List.mem_of_getElem? hm)
    unfold Q at hq
    rw [drop_cons hm]
    cases hP : P m
    · obtain ⟨y, hy, hy1, hi⟩ := ih (i + 1) (by omega)
      refine ⟨y, by simpa [hP] using hy, hy1, fun k n S hn hR hE => ?_⟩
      have hi' := fun n' h' => hi k n' S h' hR hE
      rw [show ((i + 1 : Nat) : Int) = (i : Int) + 1 from by omega] at hi'
      rw [S_loop]
      simp [u_111_0, b_111_0, hc, hix, hm, hq, hw, hP]
      exact hi' _ (le_nxt hn)
    · refine ⟨i, by simp [hP], by omega, fun k n S hn hR hE => ?_⟩
      rw [S_loop]
      simp [u_111_0, b_111_0, hc, hix, hm, hq, hw, hP]
      exact hR _ _ (le_nxt hn) (by simp)
theorem m_111 (ms : List GVal) (hl : ms.length ≤ 1048576) (f : Nat) (caps : List AVal) (hcap : omap (frz 7 noObj) caps = some caps) (P : GVal → Bool) (hf : ∀ m ∈ ms, Q mt f (aVal m :: caps) (.bool (P m))) : ∃ x : Int, ((0 ≤ x) ↔ ms.any P = true) ∧ Q mt 111 [lVal ms, .func f caps] (vi x) := by
  obtain ⟨x, hx, hx1, hi⟩ := ml_111 (mt := mt) ms hl f caps P hf ms.length 0 (by omega)
  refine ⟨x, by simpa using hx, Q.of (by simp only [frzs, omap, show frz 8 noObj (lVal ms) = some (lVal ms) from rfl, show frz 8 noObj (.func f caps) = (omap (frz 7 noObj) caps).map (.func f) from rfl, hcap, Option.map_some, Option.bind_some]) (fun k => ?_)⟩
  rw [run_evS AP_111 _ _ rfl]
  simp [c_111]
  refine hi k _ _ (Nat.le_refl _) (fun fr m hm h4 => ?_) (fun fr m hm h1 => ?_)
  · simp [h4]; exact Gv.some hm (by simp [frz])
  · simp [h1]; exact Gv.some hm (by simp [frz])
theorem m_95 (ms : List GVal) (hl : ms.length ≤ 1048576) (f : Nat) (caps : List AVal) (hcap : omap (frz 7 noObj) caps = some caps) (P : GVal → Bool) (hf : ∀ m ∈ ms, Q mt f (aVal m :: caps) (.bool (P m))) : Q mt 95 [lVal ms, .func f caps] (.bool (ms.any P)) := by
  obtain ⟨x, hx, q⟩ := m_111 (mt := mt) ms hl f caps hcap P hf
  refine Q.of (by simp only [frzs, omap, show frz 8 noObj (lVal ms) = some (lVal ms) from rfl, show frz 8 noObj (.func f caps) = (omap (frz 7 noObj) caps).map (.func f) from rfl, hcap, Option.map_some, Option.bind_some]) (fun k => ?_)
  rw [run_evS AP_95 _ _ rfl]
  unfold Q at q
  simp [c_95, q]
  refine Gv.bool (le_nxt (Nat.le_refl _)) ?_
  cases h : ms.any P
  · have : ¬ 0 ≤ x := fun h0 => by rw [hx.1 h0] at h; cases h
    simp [this]
  · have : 0 ≤ x := hx.2 h
    simp [this]
end Go.Ai
