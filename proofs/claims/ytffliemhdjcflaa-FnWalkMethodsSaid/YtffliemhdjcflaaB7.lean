/- The program's manners and its tests of operations. The program's tests of operations and programs. Written by a program of this claim (gen_m2.py). The program's ProgOk. The program's tests of values and calls. -/
import Derived.Test.YtffliemhdjcflaaB6
set_option linter.unusedSimpArgs false
set_option linter.unusedVariables false
namespace Go.Ai
variable {mt : Nat → Nat → Option Nat}
attribute [local simp] cnd_ite gS_ite
theorem m_134 (x : Int) : Q mt 134 [vi x] (.func 135 [.iptr [[vi x]] 0 0]) := by
  refine Q.of rfl (fun k => ?_)
  rw [run_evS AP_134 _ _ rfl]
  simp [c_134]
  exact Gv.some (Nat.le_succ _) (by simp [frz, omap, updO])
theorem m_135 (p : GProg) (m : GMethod) (x : Int) : Q mt 135 [aProg p, aMethod m, .iptr [[vi x]] 0 0] (vi x) := by
  refine Q.of rfl (fun k => ?_)
  rw [run_evS AP_135 _ _ rfl]
  simp [c_135]
  exact Gv.some (Nat.le_refl _) (by simp [frz])
theorem m_136 (p : GProg) (m : GMethod) : Q mt 136 [aProg p, aMethod m] (vi m.temps) := by
  refine Q.of rfl (fun k => ?_)
  rw [run_evS AP_136 _ _ rfl]
  simp [c_136]
  exact Gv.some (Nat.le_refl _) (by simp [frz])
theorem m_137 (p : GProg) (m : GMethod) : Q mt 137 [aProg p, aMethod m] (vi m.ops.length) := by
  refine Q.of rfl (fun k => ?_)
  rw [run_evS AP_137 _ _ rfl]
  simp [c_137]
  exact Gv.some (Nat.le_refl _) (by simp [frz])
theorem m_138 (p : GProg) (m : GMethod) : Q mt 138 [aProg p, aMethod m] (vi p.length) := by
  refine Q.of rfl (fun k => ?_)
  rw [run_evS AP_138 _ _ rfl]
  simp [c_138]
  exact Gv.some (Nat.le_refl _) (by simp [frz])
def mLit (x : Int) : AVal := .func 135 [.iptr [[vi x]] 0 0]
def mOf (k : Int) : AVal :=
  if k = 1 then mLit 100 else if k = 2 ∨ k = 3 then .func 136 [] else if k = 7 ∨ k = 8 then .func 137 [] else if k = 9 then .func 138 [] else if k = 13 ∨ k = 14 then mLit 4 else .nilf
/-- The table. Read off the lowered code by a program of this claim (gen_mt.py). -/
def mT : Obj' := [[.str ⟨#[]⟩, .int .i64 0, .int .i64 0, .nils, .nilf],
    [.str ⟨#[110, 117, 109]⟩, .int .i64 0, .int .i64 1, .nils, .func 135 [.iptr [[.int .i64 100]] 0 0]],
    [.str ⟨#[116, 101, 109, 112]⟩, .int .i64 0, .int .i64 1, .nils, .func 136 []],
    [.str ⟨#[115, 101, 116]⟩, .int .i64 1, .int .i64 0, .list [[.int .i64 (-1)]], .func 136 []],
    [.str ⟨#[100, 114, 111, 112]⟩, .int .i64 1, .int .i64 0, .list [[.int .i64 (-1)]], .nilf],
    [.str ⟨#[97, 100, 100]⟩, .int .i64 2, .int .i64 1, .list [[.int .i64 1], [.int .i64 1]], .nilf],
    [.str ⟨#[115, 97, 109, 101]⟩, .int .i64 2, .int .i64 1, .list [[.int .i64 (-1)], [.int .i64 (-1)]], .nilf],
    [.str ⟨#[106, 117, 109, 112]⟩, .int .i64 0, .int .i64 0, .nils, .func 137 []],
    [.str ⟨#[122, 101, 114, 111]⟩, .int .i64 1, .int .i64 0, .list [[.int .i64 (-1)]], .func 137 []],
    [.str ⟨#[99, 97, 108, 108]⟩, .int .i64 0, .int .i64 1, .nils, .func 138 []],
    [.str ⟨#[114, 101, 116]⟩, .int .i64 1, .int .i64 0, .list [[.int .i64 (-1)]], .nilf],
    [.str ⟨#[104, 101, 114, 101]⟩, .int .i64 0, .int .i64 1, .nils, .nilf],
    [.str ⟨#[115, 101, 110, 100, 101, 114]⟩, .int .i64 1, .int .i64 1, .list [[.int .i64 2]], .nilf],
    [.str ⟨#[112, 101, 101, 107]⟩, .int .i64 1, .int .i64 1, .list [[.int .i64 2]], .func 135 [.iptr [[.int .i64 4]] 0 0]],
    [.str ⟨#[112, 111, 107, 101]⟩, .int .i64 2, .int .i64 0, .list [[.int .i64 2], [.int .i64 (-1)]], .func 135 [.iptr [[.int .i64 4]] 0 0]],
    [.str ⟨#[98, 97, 99, 107]⟩, .int .i64 2, .int .i64 1, .list [[.int .i64 2], [.int .i64 (-1)]], .nilf],
    [.str ⟨#[115, 97, 121]⟩, .int .i64 1, .int .i64 0, .list [[.int .i64 (-1)]], .nilf],
    [.str ⟨#[100, 101, 97, 100]⟩, .int .i64 1, .int .i64 1, .list [[.int .i64 2]], .nilf],
    [.str ⟨#[119, 104, 101, 114, 101]⟩, .int .i64 1, .int .i64 1, .list [[.int .i64 2]], .nilf]]
theorem m_122 : Q mt 122 [] (.list mT) := by
  have q := fun x => m_134 (mt := mt) x
  unfold Q at q
  refine Q.of rfl (fun k => ?_)
  rw [run_evS AP_122 _ _ rfl]
  simp [c_122, q]
  exact Gv.some (by repeat (first | exact Nat.le_refl _ | apply le_nxt)) rfl
theorem w_mT : ∀ e ∈ mT, e.length = 5 := by simp [mT]
end Go.Ai
set_option linter.unusedSimpArgs false
set_option linter.unusedVariables false
namespace Go.Ai
variable {mt : Nat → Nat → Option Nat}
attribute [local simp] cnd_ite gS_ite
/-- A call that sees the heap as it is, and leaves it. -/
theorem q_T {f : Nat} {as as' : List AVal} {v : AVal} {G : AG} (ha : frzs G.obj as = some as') (ha' : frzs noObj as' = some as') (hq : Q mt f as' v) (hv : noImm v = true) :
    callBy (run AP mt) (.alone true true) f as G = some (v, ⟨nxt AP mt f as' G.next, G.obj⟩) := by
  have h := hq ⟨G.next, noObj⟩
  simp only [callBy, Bool.false_eq_true, if_false, ha', Option.bind_some, Option.bind_eq_some_iff] at h
  obtain ⟨r, hr, h⟩ := h
  simp only [callBy, if_true, ha, Option.bind_some, hr]
  split at h
  · rename_i hle
    simp only [if_true, Option.bind_eq_some_iff] at h
    obtain ⟨u, hu, h⟩ := h
    simp only [true_or, if_true] at h
    injection h with h; injection h with h1 h2
    injection h2 with h2 h3
    subst h1
    rw [if_pos hle]
    simp only [hu, Option.bind_some, hv, or_true, if_true, h2]
  · cases h
theorem mT_row (k : Int) (h : 1 ≤ k ∧ k ≤ 18) : ∃ a b c d d', mT[k.toNat]? = some [.str a, vi b, vi c, d, mOf k] ∧ (gv d = some d) ∧ (∀ n g, frz (n + 1) g d = some d') ∧ ∀ n g, frz (n + 3) g (mOf k) = some (mOf k) := by
  obtain ⟨n, rfl⟩ : ∃ n : Nat, k = n := ⟨k.toNat, by omega⟩
  simp only [Int.toNat_natCast]
  have : n = 1 ∨ n = 2 ∨ n = 3 ∨ n = 4 ∨ n = 5 ∨ n = 6 ∨ n = 7 ∨ n = 8 ∨ n = 9 ∨ n = 10 ∨ n = 11 ∨ n = 12 ∨ n = 13 ∨ n = 14 ∨ n = 15 ∨ n = 16 ∨ n = 17 ∨ n = 18 := by omega
  rcases this with h | h | h | h | h | h | h | h | h | h | h | h | h | h | h | h | h | h <;> subst h <;> exact ⟨_, _, _, _, _, rfl, rfl, fun _ _ => rfl, fun _ _ => rfl⟩
theorem m_110 (k : Int) (h : inR k 1 18 = true) : ∃ a b c d, Q mt 110 [vi k] (.tuple [.agg [.str a, vi b, vi c, d, mOf k], .bool true]) := by
  have hk := inR_iff.1 h
  obtain ⟨a, b, c, d, d', h1, _, h2, h3⟩ := mT_row k hk
  refine ⟨a, b, c, d', Q.of rfl (fun n => ?_)⟩
  have q := m_122 (mt := mt)
  have q2 := fun a b c => r_66 (mt := mt) a b c
  unfold Q at q q2
  have hix := fun g => idx_ok (g := g) (k := .i64) w_mT (show (0:Int) ≤ k by omega) (by show k < ((19 : Nat) : Int); omega)
  rw [run_evS AP_110 _ _ rfl]
  simp [c_110, q, q2, h, hix, h1]
  exact Gv.some (by repeat (first | exact Nat.le_refl _ | apply le_nxt)) (by
    have e1 := h2 5 noObj
    have e2 := h3 3 noObj
    show ((omap (frz 7 noObj) [.agg [.str a, vi b, vi c, d, mOf k], .bool true]).map AVal.tuple) = _
    have e3 : frz 7 noObj (.agg [.str a, vi b, vi c, d, mOf k]) = some (.agg [.str a, vi b, vi c, d', mOf k]) := by
      show ((omap (frz 6 noObj) [.str a, vi b, vi c, d, mOf k]).map AVal.agg) = _
      simp only [omap, e1, e2, show frz 6 noObj (.str a) = some (.str a) from rfl, show frz 6 noObj (vi b) = some (vi b) from rfl, show frz 6 noObj (vi c) = some (vi c) from rfl, Option.bind_some, Option.map_some]
    simp only [omap, e3, show frz 7 noObj (.bool true) = some (.bool true) from rfl, Option.bind_some, Option.map_some])
theorem m_110n (k : Int) (h : inR k 1 18 = false) : Q mt 110 [vi k] (.tuple [.agg [.str ⟨#[]⟩, vi 0, vi 0, .list [], .nilf], .bool false]) := by
  refine Q.of rfl (fun n => ?_)
  have q2 := fun a b c => r_66 (mt := mt) a b c
  unfold Q at q2
  rw [run_evS AP_110 _ _ rfl]
  simp [c_110, q2, h]
  exact Gv.some (by repeat (first | exact Nat.le_refl _ | apply le_nxt)) (by simp [frz, omap])
theorem mOf_cases (k : Int) : (k = 1 ∧ mOf k = mLit 100) ∨ ((k = 2 ∨ k = 3) ∧ mOf k = .func 136 []) ∨ ((k = 7 ∨ k = 8) ∧ mOf k = .func 137 []) ∨ (k = 9 ∧ mOf k = .func 138 []) ∨ ((k = 13 ∨ k = 14) ∧ mOf k = mLit 4) ∨
    ((k ≠ 1 ∧ ¬ (k = 2 ∨ k = 3) ∧ ¬ (k = 7 ∨ k = 8) ∧ k ≠ 9 ∧ ¬ (k = 13 ∨ k = 14)) ∧ mOf k = .nilf) := by
  unfold mOf
  repeat' split
  all_goals first | (left; exact ⟨by assumption, rfl⟩) | skip
  · right; left; exact ⟨by assumption, rfl⟩
  · right; right; left; exact ⟨by assumption, rfl⟩
  · right; right; right; left; exact ⟨by assumption, rfl⟩
  · right; right; right; right; left; exact ⟨by assumption, rfl⟩
  · right; right; right; right; right; exact ⟨⟨by assumption, by assumption, by assumption, by assumption, by assumption⟩, rfl⟩
theorem m_92 (p : GProg) (m : GMethod) (o : GOp) (ht : 0 ≤ m.temps ∧ m.temps ≤ 1000) (hm : m.ops.length ≤ 2097152) (hp : p.length ≤ 2097152) : Q mt 92 [aOp o, aProg p, aMethod m] (.bool (opOk p m o)) := by
  have q := fun a b c => r_66 (mt := mt) a b c
  have q5 := fun x => m_135 (mt := mt) p m x
  have q6 := m_136 (mt := mt) p m
  have q7 := m_137 (mt := mt) p m
  have q8 := m_138 (mt := mt) p m
  unfold Q at q q5 q6 q7 q8
  have hw : IntKind.i64.wrap (m.temps - 1) = m.temps - 1 := wrap_id (by omega) (by omega)
  have hw2 : IntKind.i64.wrap ((m.ops.length : Int) - 1) = m.ops.length - 1 := wrap_id (by omega) (by omega)
  have hw3 : IntKind.i64.wrap ((p.length : Int) - 1) = p.length - 1 := wrap_id (by omega) (by omega)
  have hw4 : IntKind.i64.wrap 99 = 99 := wrap_id (by omega) (by omega)
  have hw5 : IntKind.i64.wrap 3 = 3 := wrap_id (by omega) (by omega)
  refine Q.of rfl (fun k => ?_)
  rw [run_evS AP_92 _ _ rfl]
  cases h1 : inR o.kind 1 18
  · have q0 := m_110n (mt := mt) o.kind h1
    unfold Q at q0
    have hr : ¬ (1 ≤ o.kind ∧ o.kind ≤ 18) := fun h => by rw [inR_iff.2 h] at h1; cases h1
    have hf : opOk p m o = false := by
      unfold opOk
      rw [if_neg (by omega), if_neg (by omega), if_neg (by omega), if_neg (by omega), if_neg (by omega), h1]; rfl
    rw [hf]
    simp [c_92, q0]
    exact Gv.bool (by repeat (first | exact Nat.le_refl _ | apply le_nxt)) rfl
  · obtain ⟨a, b, c, d, q0⟩ := m_110 (mt := mt) o.kind h1
    unfold Q at q0
    have hr := inR_iff.1 h1
    rcases mOf_cases o.kind with ⟨hk, he⟩ | ⟨hk, he⟩ | ⟨hk, he⟩ | ⟨hk, he⟩ | ⟨hk, he⟩ | ⟨hk, he⟩ <;> rw [he] at q0
    · have hf : opOk p m o = inR o.a 0 99 := by unfold opOk; rw [if_pos hk]
      rw [hf]
      simp [c_92, q0, q, q5, mLit, hw4]
      exact Gv.bool (by repeat (first | exact Nat.le_refl _ | apply le_nxt)) rfl
    · have hf : opOk p m o = inR o.a 0 (m.temps - 1) := by unfold opOk; rw [if_neg (by omega), if_pos hk]
      rw [hf]
      simp [c_92, q0, q, q6, hw]
      exact Gv.bool (by repeat (first | exact Nat.le_refl _ | apply le_nxt)) rfl
    · have hf : opOk p m o = inR o.a 0 (m.ops.length - 1) := by unfold opOk; rw [if_neg (by omega), if_neg (by omega), if_pos hk]
      rw [hf]
      simp [c_92, q0, q, q7, hw2]
      exact Gv.bool (by repeat (first | exact Nat.le_refl _ | apply le_nxt)) rfl
    · have hf : opOk p m o = inR o.a 0 (p.length - 1) := by unfold opOk; rw [if_neg (by omega), if_neg (by omega), if_neg (by omega), if_pos hk]
      rw [hf]
      simp [c_92, q0, q, q8, hw3]
      exact Gv.bool (by repeat (first | exact Nat.le_refl _ | apply le_nxt)) rfl
    · have hf : opOk p m o = inR o.a 0 3 := by unfold opOk; rw [if_neg (by omega), if_neg (by omega), if_neg (by omega), if_neg (by omega), if_pos hk]
      rw [hf]
      simp [c_92, q0, q, q5, mLit, hw5]
      exact Gv.bool (by repeat (first | exact Nat.le_refl _ | apply le_nxt)) rfl
    · have hf : opOk p m o = decide (o.a = 0) := by unfold opOk; rw [if_neg (by omega), if_neg (by omega), if_neg (by omega), if_neg (by omega), if_neg (by omega), h1]; rfl
      rw [hf]
      simp [c_92, q0]
      exact Gv.bool (by repeat (first | exact Nat.le_refl _ | apply le_nxt)) rfl
theorem ml_109 (ms : List GOp) (hl : ms.length ≤ 2097152) (f : Nat) (caps : List AVal) (P : GOp → Bool) (hf : ∀ m ∈ ms, Q mt f (aOp m :: caps) (.bool (P m))) : ∀ (j i : Nat), i + j = ms.length →
    ∃ x : Int, ((0 ≤ x) ↔ (ms.drop i).any P = true) ∧ -1 ≤ x ∧ ∀ (k n : Nat) (S : List KF), k ≤ n → (∀ fr m, k ≤ m → fr 4 = vi x → Gv k (vi x) (unw AP mt .ret fr ⟨m, noObj⟩ S)) → (∀ fr m, k ≤ m → x = -1 → Gv k (vi x) (unw AP mt (.exit 0) fr ⟨m, noObj⟩ S)) →
      Gv k (vi x) (evS AP mt (.loop l_109_0) (upd (upd (upd (upd fr0 8 (vi i)) 7 (vi ms.length)) 1 (.func f caps)) 0 (lOp ms)) ⟨n, noObj⟩ S) := by
  intro j
  induction j with
  | zero =>
    intro i hij
    have hd : ms.drop i = [] := List.drop_eq_nil_iff.2 (by omega)
    refine ⟨-1, by simp [hd], by omega, fun k n S hn hR hE => ?_⟩
    rw [S_loop]
    have hc : ¬ ((i : Int) < ms.length) := by omega
    simp [u_109_0, b_109_0, hc]
    exact hE _ _ hn rfl
  | succ j ih =>
    intro i hij
    have hlt : i < ms.length := by omega
    obtain ⟨m, hm⟩ : ∃ m, ms[i]? = some m := ⟨_, List.getElem?_eq_getElem hlt⟩
    have hc : (i : Int) < ms.length := by omega
    have hw : IntKind.i64.wrap ((i : Int) + 1) = (i : Int) + 1 := wrap_id (by omega) (by omega)
    have hix := fun g => idx_ok (g := g) (k := .i64) (w_Op ms) (show (0:Int) ≤ i by omega) (by simpa using hc)
    have hq := hf m (List.mem_of_getElem? hm)
    unfold Q at hq
    rw [drop_cons hm]
    cases hP : P m
    · obtain ⟨y, hy, hy1, hi⟩ := ih (i + 1) (by omega)
      refine ⟨y, by simpa [hP] using hy, hy1, fun k n S hn hR hE => ?_⟩
      have hi' := fun n' h' => hi k n' S h' hR hE
      rw [show ((i + 1 : Nat) : Int) = (i : Int) + 1 from by omega] at hi'
      rw [S_loop]
      simp [u_109_0, b_109_0, hc, hix, hm, hq, hw, hP]
      exact hi' _ (le_nxt hn)
    · refine ⟨i, by simp [hP], by omega, fun k n S hn hR hE => ?_⟩
      rw [S_loop]
      simp [u_109_0, b_109_0, hc, hix, hm, hq, hw, hP]
      exact hR _ _ (le_nxt hn) (by simp)
theorem m_109 (ms : List GOp) (hl : ms.length ≤ 2097152) (f : Nat) (caps : List AVal) (hcap : omap (frz 7 noObj) caps = some caps) (P : GOp → Bool) (hf : ∀ m ∈ ms, Q mt f (aOp m :: caps) (.bool (P m))) : ∃ x : Int, ((0 ≤ x) ↔ ms.any P = true) ∧ Q mt 109 [lOp ms, .func f caps] (vi x) := by
  obtain ⟨x, hx, hx1, hi⟩ := ml_109 (mt := mt) ms hl f caps P hf ms.length 0 (by omega)
  refine ⟨x, by simpa using hx, Q.of (by simp only [frzs, omap, show frz 8 noObj (lOp ms) = some (lOp ms) from rfl, show frz 8 noObj (.func f caps) = (omap (frz 7 noObj) caps).map (.func f) from rfl, hcap, Option.map_some, Option.bind_some]) (fun k => ?_)⟩
  rw [run_evS AP_109 _ _ rfl]
  simp [c_109]
  refine hi k _ _ (Nat.le_refl _) (fun fr m hm h4 => ?_) (fun fr m hm h1 => ?_)
  · simp [h4]; exact Gv.some hm (by simp [frz])
  · simp [h1]; exact Gv.some hm (by simp [frz])
theorem m_90 (ms : List GOp) (hl : ms.length ≤ 2097152) (f : Nat) (caps : List AVal) (hcap : omap (frz 7 noObj) caps = some caps) (P : GOp → Bool) (hf : ∀ m ∈ ms, Q mt f (aOp m :: caps) (.bool (P m))) : Q mt 90 [lOp ms, .func f caps] (.bool (ms.any P)) := by
  obtain ⟨x, hx, q⟩ := m_109 (mt := mt) ms hl f caps hcap P hf
  refine Q.of (by simp only [frzs, omap, show frz 8 noObj (lOp ms) = some (lOp ms) from rfl, show frz 8 noObj (.func f caps) = (omap (frz 7 noObj) caps).map (.func f) from rfl, hcap, Option.map_some, Option.bind_some]) (fun k => ?_)
  rw [run_evS AP_90 _ _ rfl]
  unfold Q at q
  simp [c_90, q]
  refine Gv.bool (le_nxt (Nat.le_refl _)) ?_
  cases h : ms.any P
  · have : ¬ 0 ≤ x := fun h0 => by rw [hx.1 h0] at h; cases h
    simp [this]
  · have : 0 ≤ x := hx.2 h
    simp [this]
theorem ml_108 (ms : List GMethod) (hl : ms.length ≤ 2097152) (f : Nat) (caps : List AVal) (P : GMethod → Bool) (hf : ∀ m ∈ ms, Q mt f (aMethod m :: caps) (.bool (P m))) : ∀ (j i : Nat), i + j = ms.length →
    ∃ x : Int, ((0 ≤ x) ↔ (ms.drop i).any P = true) ∧ -1 ≤ x ∧ ∀ (k n : Nat) (S : List KF), k ≤ n → (∀ fr m, k ≤ m → fr 4 = vi x → Gv k (vi x) (unw AP mt .ret fr ⟨m, noObj⟩ S)) → (∀ fr m, k ≤ m → x = -1 → Gv k (vi x) (unw AP mt (.exit 0) fr ⟨m, noObj⟩ S)) →
      Gv k (vi x) (evS AP mt (.loop l_108_0) (upd (upd (upd (upd fr0 8 (vi i)) 7 (vi ms.length)) 1 (.func f caps)) 0 (lMethod ms)) ⟨n, noObj⟩ S) := by
  intro j
  induction j with
  | zero =>
    intro i hij
    have hd : ms.drop i = [] := List.drop_eq_nil_iff.2 (by omega)
    refine ⟨-1, by simp [hd], by omega, fun k n S hn hR hE => ?_⟩
    rw [S_loop]
    have hc : ¬ ((i : Int) < ms.length) := by omega
    simp [u_108_0, b_108_0, hc]
    exact hE _ _ hn rfl
  | succ j ih =>
    intro i hij
    have hlt : i < ms.length := by omega
    obtain ⟨m, hm⟩ : ∃ m, ms[i]? = some m := ⟨_, List.getElem?_eq_getElem hlt⟩
    have hc : (i : Int) < ms.length := by omega
    have hw : IntKind.i64.wrap ((i : Int) + 1) = (i : Int) + 1 := wrap_id (by omega) (by omega)
    have hix := fun g => idx_ok (g := g) (k := .i64) (w_Method ms) (show (0:Int) ≤ i by omega) (by simpa using hc)
    have hq := hf m (List.mem_of_getElem? hm)
    unfold Q at hq
    rw [drop_cons hm]
    cases hP : P m
    · obtain ⟨y, hy, hy1, hi⟩ := ih (i + 1) (by omega)
      refine ⟨y, by simpa [hP] using hy, hy1, fun k n S hn hR hE => ?_⟩
      have hi' := fun n' h' => hi k n' S h' hR hE
      rw [show ((i + 1 : Nat) : Int) = (i : Int) + 1 from by omega] at hi'
      rw [S_loop]
      simp [u_108_0, b_108_0, hc, hix, hm, hq, hw, hP]
      exact hi' _ (le_nxt hn)
    · refine ⟨i, by simp [hP], by omega, fun k n S hn hR hE => ?_⟩
      rw [S_loop]
      simp [u_108_0, b_108_0, hc, hix, hm, hq, hw, hP]
      exact hR _ _ (le_nxt hn) (by simp)
theorem m_108 (ms : List GMethod) (hl : ms.length ≤ 2097152) (f : Nat) (caps : List AVal) (hcap : omap (frz 7 noObj) caps = some caps) (P : GMethod → Bool) (hf : ∀ m ∈ ms, Q mt f (aMethod m :: caps) (.bool (P m))) : ∃ x : Int, ((0 ≤ x) ↔ ms.any P = true) ∧ Q mt 108 [lMethod ms, .func f caps] (vi x) := by
  obtain ⟨x, hx, hx1, hi⟩ := ml_108 (mt := mt) ms hl f caps P hf ms.length 0 (by omega)
  refine ⟨x, by simpa using hx, Q.of (by simp only [frzs, omap, show frz 8 noObj (lMethod ms) = some (lMethod ms) from rfl, show frz 8 noObj (.func f caps) = (omap (frz 7 noObj) caps).map (.func f) from rfl, hcap, Option.map_some, Option.bind_some]) (fun k => ?_)⟩
  rw [run_evS AP_108 _ _ rfl]
  simp [c_108]
  refine hi k _ _ (Nat.le_refl _) (fun fr m hm h4 => ?_) (fun fr m hm h1 => ?_)
  · simp [h4]; exact Gv.some hm (by simp [frz])
  · simp [h1]; exact Gv.some hm (by simp [frz])
theorem m_88 (ms : List GMethod) (hl : ms.length ≤ 2097152) (f : Nat) (caps : List AVal) (hcap : omap (frz 7 noObj) caps = some caps) (P : GMethod → Bool) (hf : ∀ m ∈ ms, Q mt f (aMethod m :: caps) (.bool (P m))) : Q mt 88 [lMethod ms, .func f caps] (.bool (ms.any P)) := by
  obtain ⟨x, hx, q⟩ := m_108 (mt := mt) ms hl f caps hcap P hf
  refine Q.of (by simp only [frzs, omap, show frz 8 noObj (lMethod ms) = some (lMethod ms) from rfl, show frz 8 noObj (.func f caps) = (omap (frz 7 noObj) caps).map (.func f) from rfl, hcap, Option.map_some, Option.bind_some]) (fun k => ?_)
  rw [run_evS AP_88 _ _ rfl]
  unfold Q at q
  simp [c_88, q]
  refine Gv.bool (le_nxt (Nat.le_refl _)) ?_
  cases h : ms.any P
  · have : ¬ 0 ≤ x := fun h0 => by rw [hx.1 h0] at h; cases h
    simp [this]
  · have : 0 ≤ x := hx.2 h
    simp [this]
theorem ml_111 (ms : List GVal) (hl : ms.length ≤ 2097152) (f : Nat) (caps : List AVal) (P : GVal → Bool) (hf : ∀ m ∈ ms, Q mt f (aVal m :: caps) (.bool (P m))) : ∀ (j i : Nat), i + j = ms.length →
    ∃ x : Int, ((0 ≤ x) ↔ (ms.drop i).any P = true) ∧ -1 ≤ x ∧ ∀ (k n : Nat) (S : List KF), k ≤ n → (∀ fr m, k ≤ m → fr 4 = vi x → Gv k (vi x) (unw AP mt .ret fr ⟨m, noObj⟩ S)) → (∀ fr m, k ≤ m → x = -1 → Gv k (vi x) (unw AP mt (.exit 0) fr ⟨m, noObj⟩ S)) →
      Gv k (vi x) (evS AP mt (.loop l_111_0) (upd (upd (upd (upd fr0 8 (vi i)) 7 (vi ms.length)) 1 (.func f caps)) 0 (lVal ms)) ⟨n, noObj⟩ S) := by
  intro j
  induction j with
  | zero =>
    intro i hij
    have hd : ms.drop i = [] := List.drop_eq_nil_iff.2 (by omega)
    refine ⟨-1, by simp [hd], by omega, fun k n S hn hR hE => ?_⟩
    rw [S_loop]
    have hc : ¬ ((i : Int) < ms.length) := by omega
    simp [u_111_0, b_111_0, hc]
    exact hE _ _ hn rfl
  | succ j ih =>
    intro i hij
    have hlt : i < ms.length := by omega
    obtain ⟨m, hm⟩ : ∃ m, ms[i]? = some m := ⟨_, List.getElem?_eq_getElem hlt⟩
    have hc : (i : Int) < ms.length := by omega
    have hw : IntKind.i64.wrap ((i : Int) + 1) = (i : Int) + 1 := wrap_id (by omega) (by omega)
    have hix := fun g => idx_ok (g := g) (k := .i64) (w_Val ms) (show (0:Int) ≤ i by omega) (by simpa using hc)
    have hq := hf m (List.mem_of_getElem? hm)
    unfold Q at hq
    rw [drop_cons hm]
    cases hP : P m
    · obtain ⟨y, hy, hy1, hi⟩ := ih (i + 1) (by omega)
      refine ⟨y, by simpa [hP] using hy, hy1, fun k n S hn hR hE => ?_⟩
      have hi' := fun n' h' => hi k n' S h' hR hE
      rw [show ((i + 1 : Nat) : Int) = (i : Int) + 1 from by omega] at hi'
      rw [S_loop]
      simp [u_111_0, b_111_0, hc, hix, hm, hq, hw, hP]
      exact hi' _ (le_nxt hn)
    · refine ⟨i, by simp [hP], by omega, fun k n S hn hR hE => ?_⟩
      rw [S_loop]
      simp [u_111_0, b_111_0, hc, hix, hm, hq, hw, hP]
      exact hR _ _ (le_nxt hn) (by simp)
theorem m_111 (ms : List GVal) (hl : ms.length ≤ 2097152) (f : Nat) (caps : List AVal) (hcap : omap (frz 7 noObj) caps = some caps) (P : GVal → Bool) (hf : ∀ m ∈ ms, Q mt f (aVal m :: caps) (.bool (P m))) : ∃ x : Int, ((0 ≤ x) ↔ ms.any P = true) ∧ Q mt 111 [lVal ms, .func f caps] (vi x) := by
  obtain ⟨x, hx, hx1, hi⟩ := ml_111 (mt := mt) ms hl f caps P hf ms.length 0 (by omega)
  refine ⟨x, by simpa using hx, Q.of (by simp only [frzs, omap, show frz 8 noObj (lVal ms) = some (lVal ms) from rfl, show frz 8 noObj (.func f caps) = (omap (frz 7 noObj) caps).map (.func f) from rfl, hcap, Option.map_some, Option.bind_some]) (fun k => ?_)⟩
  rw [run_evS AP_111 _ _ rfl]
  simp [c_111]
  refine hi k _ _ (Nat.le_refl _) (fun fr m hm h4 => ?_) (fun fr m hm h1 => ?_)
  · simp [h4]; exact Gv.some hm (by simp [frz])
  · simp [h1]; exact Gv.some hm (by simp [frz])
theorem m_95 (ms : List GVal) (hl : ms.length ≤ 2097152) (f : Nat) (caps : List AVal) (hcap : omap (frz 7 noObj) caps = some caps) (P : GVal → Bool) (hf : ∀ m ∈ ms, Q mt f (aVal m :: caps) (.bool (P m))) : Q mt 95 [lVal ms, .func f caps] (.bool (ms.any P)) := by
  obtain ⟨x, hx, q⟩ := m_111 (mt := mt) ms hl f caps hcap P hf
  refine Q.of (by simp only [frzs, omap, show frz 8 noObj (lVal ms) = some (lVal ms) from rfl, show frz 8 noObj (.func f caps) = (omap (frz 7 noObj) caps).map (.func f) from rfl, hcap, Option.map_some, Option.bind_some]) (fun k => ?_)
  rw [run_evS AP_95 _ _ rfl]
  unfold Q at q
  simp [c_95, q]
  refine Gv.bool (le_nxt (Nat.le_refl _)) ?_
  cases h : ms.any P
  · have : ¬ 0 ≤ x := fun h0 => by rw [hx.1 h0] at h; cases h
    simp [this]
  · have : 0 ≤ x := hx.2 h
    simp [this]
end Go.Ai
set_option linter.unusedSimpArgs false
set_option linter.unusedVariables false
namespace Go.Ai
variable {mt : Nat → Nat → Option Nat}
attribute [local simp] cnd_ite gS_ite
theorem any_not {α : Type} (f : α → Bool) : ∀ l : List α, (l.any fun x => !f x) = !l.all f := by
  intro l
  induction l with
  | nil => rfl
  | cons x xs ih => simp only [List.any_cons, List.all_cons, ih, Bool.not_and]
abbrev pP (p : GProg) : AVal := .iptr [[lMethod p]] 0 0
abbrev pM (m : GMethod) : AVal := .iptr [[vi m.args, vi m.temps, lOp m.ops]] 0 0
theorem m_91 (p : GProg) (m : GMethod) (o : GOp) (ht : 0 ≤ m.temps ∧ m.temps ≤ 1000) (hm : m.ops.length ≤ 2097152) (hp : p.length ≤ 2097152) : Q mt 91 [aOp o, pP p, pM m] (.bool (!opOk p m o)) := by
  have q := m_92 (mt := mt) p m o ht hm hp
  unfold Q at q
  refine Q.of rfl (fun k => ?_)
  rw [run_evS AP_91 _ _ rfl]
  simp [c_91, q]
  exact Gv.bool (by repeat (first | exact Nat.le_refl _ | apply le_nxt)) rfl
theorem m_89 (p : GProg) (m : GMethod) (hm : m.ops.length ≤ 2097152) (hp : p.length ≤ 2097152) : Q mt 89 [aMethod m, pP p] (.bool (!methodOk p m)) := by
  have q := fun a b c => r_66 (mt := mt) a b c
  unfold Q at q
  refine Q.of rfl (fun k => ?_)
  rw [run_evS AP_89 _ _ rfl]
  unfold methodOk
  cases h1 : inR m.args 0 2
  · simp [ldA, updO, c_89, q, h1]
    exact Gv.bool (by repeat (first | exact Nat.le_refl _ | exact Nat.le_succ _ | apply le_nxt)) rfl
  cases h2 : inR m.temps m.args 4
  · simp [ldA, updO, c_89, q, h1, h2]
    exact Gv.bool (by repeat (first | exact Nat.le_refl _ | exact Nat.le_succ _ | apply le_nxt)) rfl
  by_cases h3 : m.ops.length ≤ 14
  rotate_left
  · have h3' : (14 < (m.ops.length : Int)) := by omega
    simp [ldA, updO, c_89, q, h1, h2, h3, h3']
    exact Gv.bool (by repeat (first | exact Nat.le_refl _ | exact Nat.le_succ _ | apply le_nxt)) rfl
  have h3' : ¬ (14 < (m.ops.length : Int)) := by omega
  have h4 : 0 ≤ m.temps ∧ m.temps ≤ 1000 := by simp [inR] at h1 h2; omega
  have q90 := m_90 (mt := mt) m.ops hm 91 [pP p, pM m] rfl (fun o => !opOk p m o) (fun o _ => m_91 p m o h4 hm hp)
  rw [any_not] at q90
  have qT : ∀ n, callBy (run AP mt) (.alone true true) 90 [lOp m.ops, .func 91 [pP p, .ptr k 0 0]] ⟨n, updO noObj k (some [[vi m.args, vi m.temps, lOp m.ops]])⟩ = some (.bool (!m.ops.all (opOk p m)), ⟨nxt AP mt 90 [lOp m.ops, .func 91 [pP p, pM m]] n, updO noObj k (some [[vi m.args, vi m.temps, lOp m.ops]])⟩) := fun n =>
    q_T (as := [lOp m.ops, .func 91 [pP p, .ptr k 0 0]]) (as' := [lOp m.ops, .func 91 [pP p, pM m]]) (G := ⟨n, updO noObj k (some [[vi m.args, vi m.temps, lOp m.ops]])⟩) (by simp [frzs, frz, omap, updO]) rfl q90 rfl
  simp [ldA, updO, c_89, q, h1, h2, h3, h3', qT]
  exact Gv.bool (by repeat (first | exact Nat.le_refl _ | exact Nat.le_succ _ | apply le_nxt)) (by simp)
theorem m_65 (p : GProg) (h : ShP p) : Q mt 65 [aProg p] (.bool (progOk p)) := by
  have q := fun a b c => r_66 (mt := mt) a b c
  unfold Q at q
  have hpl := h.l
  refine Q.of rfl (fun k => ?_)
  rw [run_evS AP_65 _ _ rfl]
  unfold progOk
  cases h1 : inR p.length 1 4
  · simp [ldA, updO, c_65, q, h1]
    exact Gv.bool (by repeat (first | exact Nat.le_refl _ | exact Nat.le_succ _ | apply le_nxt)) rfl
  have hl : 1 ≤ p.length := by simp [inR] at h1; omega
  obtain ⟨d, ds, hd⟩ : ∃ d ds, p = d :: ds := by
    cases p with
    | nil => simp at hl
    | cons d ds => exact ⟨d, ds, rfl⟩
  have hg : p[0]? = some d := by rw [hd]; rfl
  have hh : p.head? = some d := by rw [hd]; rfl
  have hix := fun g => idx_ok (g := g) (k := .i64) (w_Method p) (show (0:Int) ≤ 0 by omega) (by simp; omega)
  by_cases h2 : d.args = 0
  rotate_left
  · simp [ldA, updO, c_65, q, h1, hix, hg, hh, h2]
    exact Gv.bool (by repeat (first | exact Nat.le_refl _ | exact Nat.le_succ _ | apply le_nxt)) rfl
  have q88 := m_88 (mt := mt) p h.l 89 [pP p] rfl (fun m => !methodOk p m) (fun m hm => m_89 p m (h.m m hm) h.l)
  rw [any_not] at q88
  have qT : ∀ n, callBy (run AP mt) (.alone true true) 88 [lMethod p, .func 89 [.ptr k 0 0]] ⟨n, updO noObj k (some [[lMethod p]])⟩ = some (.bool (!p.all (methodOk p)), ⟨nxt AP mt 88 [lMethod p, .func 89 [pP p]] n, updO noObj k (some [[lMethod p]])⟩) := fun n =>
    q_T (as := [lMethod p, .func 89 [.ptr k 0 0]]) (as' := [lMethod p, .func 89 [pP p]]) (G := ⟨n, updO noObj k (some [[lMethod p]])⟩) (by simp [frzs, frz, omap, updO]) rfl q88 rfl
  simp [ldA, updO, c_65, q, h1, hix, hg, hh, h2, qT]
  exact Gv.bool (by repeat (first | exact Nat.le_refl _ | exact Nat.le_succ _ | apply le_nxt)) (by simp)
end Go.Ai
set_option linter.unusedSimpArgs false
set_option linter.unusedVariables false
namespace Go.Ai
variable {mt : Nat → Nat → Option Nat}
attribute [local simp] cnd_ite gS_ite
theorem m_94 (v : GVal) (n : Int) (hn : 0 ≤ n ∧ n ≤ 4611686018427387904) : Q mt 94 [aVal v, vi n] (.bool (valOk v n)) := by
  have q := fun a b c => r_66 (mt := mt) a b c
  unfold Q at q
  have hw : IntKind.i64.wrap (n - 1) = n - 1 := wrap_id (by omega) (by omega)
  refine Q.of rfl (fun k => ?_)
  rw [run_evS AP_94 _ _ rfl]
  simp [c_94, q, hw]
  repeat' (first | (exfalso; omega) | (refine Gv.bool (by repeat (first | exact Nat.le_refl _ | apply le_nxt)) ?_; simp [valOk, *]; done) | refine Gv.ite (fun h => ?_) (fun h => ?_) | simp [*])
theorem m_93 (p : GProg) (v : GVal) (hp : p.length ≤ 2097152) : Q mt 93 [aVal v, pP p] (.bool (!valOk v p.length)) := by
  have q := m_94 (mt := mt) v p.length ⟨by omega, by omega⟩
  unfold Q at q
  refine Q.of rfl (fun k => ?_)
  rw [run_evS AP_93 _ _ rfl]
  simp [c_93, q]
  exact Gv.bool (by repeat (first | exact Nat.le_refl _ | apply le_nxt)) rfl
theorem m_112 (v : GVal) (n : Int) (hn : 0 ≤ n ∧ n ≤ 4611686018427387904) : Q mt 112 [aVal v, .iptr [[vi n]] 0 0] (.bool (!valOk v n)) := by
  have q := m_94 (mt := mt) v n hn
  unfold Q at q
  refine Q.of rfl (fun k => ?_)
  rw [run_evS AP_112 _ _ rfl]
  simp [c_112, q]
  exact Gv.bool (by repeat (first | exact Nat.le_refl _ | apply le_nxt)) rfl
theorem m_96 (l : List GVal) (n : Int) (hn : 0 ≤ n ∧ n ≤ 4611686018427387904) (hl : l.length ≤ 2097152) : Q mt 96 [lVal l, vi n] (.bool (l.all fun v => valOk v n)) := by
  refine Q.of rfl (fun k => ?_)
  rw [run_evS AP_96 _ _ rfl]
  have q := m_95 (mt := mt) l hl 112 [.iptr [[vi n]] 0 0] rfl (fun v => !valOk v n) (fun v _ => m_112 v n hn)
  rw [any_not] at q
  have qT : ∀ n', callBy (run AP mt) (.alone true true) 95 [lVal l, .func 112 [.ptr k 0 0]] ⟨n', updO noObj k (some [[vi n]])⟩ = some (.bool (!l.all fun v => valOk v n), ⟨nxt AP mt 95 [lVal l, .func 112 [.iptr [[vi n]] 0 0]] n', updO noObj k (some [[vi n]])⟩) := fun n' =>
    q_T (as := [lVal l, .func 112 [.ptr k 0 0]]) (as' := [lVal l, .func 112 [.iptr [[vi n]] 0 0]]) (G := ⟨n', updO noObj k (some [[vi n]])⟩) (by simp [frzs, frz, omap, updO]) rfl q rfl
  simp [ldA, c_96, qT]
  exact Gv.bool (by repeat (first | exact Nat.le_refl _ | exact Nat.le_succ _ | apply le_nxt)) (by simp)
def toldOk (p : GProg) (h : GHeap) : Bool := inR h.born 1 30 && (h.said.all (fun v => valOk v p.length) && (inR h.code 0 3 && decide ((h.code = 1) ↔ (h.now = -1))))
theorem m_67 (p : GProg) (h : GHeap) (hp : p.length ≤ 2097152) (hs : h.said.length ≤ 2097152) : Q mt 67 [aProg p, vi h.born, lVal h.said, vi h.code, .bool (decide (h.now = -1))] (.bool (toldOk p h)) := by
  refine Q.of rfl (fun k => ?_)
  rw [run_evS AP_67 _ _ rfl]
  have q := fun a b c => r_66 (mt := mt) a b c
  unfold Q at q
  have q95 := m_95 (mt := mt) h.said hs 93 [pP p] rfl (fun v => !valOk v p.length) (fun v _ => m_93 p v hp)
  rw [any_not] at q95
  have qT : ∀ n', callBy (run AP mt) (.alone true true) 95 [lVal h.said, .func 93 [.ptr k 0 0]] ⟨n', updO noObj k (some [[lMethod p]])⟩ = some (.bool (!h.said.all fun v => valOk v p.length), ⟨nxt AP mt 95 [lVal h.said, .func 93 [pP p]] n', updO noObj k (some [[lMethod p]])⟩) := fun n' =>
    q_T (as := [lVal h.said, .func 93 [.ptr k 0 0]]) (as' := [lVal h.said, .func 93 [pP p]]) (G := ⟨n', updO noObj k (some [[lMethod p]])⟩) (by simp [frzs, frz, omap, updO]) rfl q95 rfl
  unfold toldOk
  cases h1 : inR h.born 1 30
  · simp [c_67, q, h1]
    exact Gv.bool (by repeat (first | exact Nat.le_refl _ | exact Nat.le_succ _ | apply le_nxt)) rfl
  cases h2 : h.said.all (fun v => valOk v p.length)
  · simp [c_67, q, h1, qT, h2]
    exact Gv.bool (by repeat (first | exact Nat.le_refl _ | exact Nat.le_succ _ | apply le_nxt)) rfl
  cases h3 : inR h.code 0 3
  · simp [c_67, q, h1, qT, h2, h3]
    exact Gv.bool (by repeat (first | exact Nat.le_refl _ | exact Nat.le_succ _ | apply le_nxt)) rfl
  simp [c_67, q, h1, qT, h2, h3]
  exact Gv.bool (by repeat (first | exact Nat.le_refl _ | exact Nat.le_succ _ | apply le_nxt)) (by by_cases e1 : h.code = 1 <;> by_cases e2 : h.now = -1 <;> simp [e1, e2])
end Go.Ai
