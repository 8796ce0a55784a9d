/- The specification's tests as plain functions. The specification's tests of lists. Written by a program of this claim (gen_spec.py). The specification's tests of a heap. -/
import Derived.Test.YtffliemhdjcflaaB4
set_option linter.unusedSimpArgs false
set_option linter.unusedVariables false
namespace Go.Ai
variable {mt : Nat → Nat → Option Nat}
attribute [local simp] cnd_ite gS_ite
def inR (n lo hi : Int) : Bool := decide (lo ≤ n) && decide (n ≤ hi)
theorem r_55 (n lo hi : Int) : Q mt 55 [vi n, vi lo, vi hi] (.bool (inR n lo hi)) := by
  refine Q.of rfl (fun k => ?_)
  rw [run_evS AP_55 _ _ rfl]
  simp [c_55]
  repeat' (first | (exfalso; omega) | (refine Gv.bool (by repeat (first | exact Nat.le_refl _ | apply le_nxt)) ?_; simp [inR, *]; done) | refine Gv.ite (fun h => ?_) (fun h => ?_) | simp [*])
theorem r_66 (n lo hi : Int) : Q mt 66 [vi n, vi lo, vi hi] (.bool (inR n lo hi)) := by
  refine Q.of rfl (fun k => ?_)
  rw [run_evS AP_66 _ _ rfl]
  simp [c_66]
  repeat' (first | (exfalso; omega) | (refine Gv.bool (by repeat (first | exact Nat.le_refl _ | apply le_nxt)) ?_; simp [inR, *]; done) | refine Gv.ite (fun h => ?_) (fun h => ?_) | simp [*])
def valOk (v : GVal) (n : Int) : Bool :=
  if v.kind = 0 then decide (v.num = 0) else if v.kind = 1 then inR v.num 0 999 else if v.kind = 2 then inR v.num 0 (n - 1) else false
theorem r_83 (v : GVal) (n : Int) (hn : 0 ≤ n ∧ n ≤ 4611686018427387904) : Q mt 83 [aVal v, vi n] (.bool (valOk v n)) := by
  have q := fun a b c => r_55 (mt := mt) a b c
  unfold Q at q
  have hw : IntKind.i64.wrap (n - 1) = n - 1 := wrap_id (by omega) (by omega)
  refine Q.of rfl (fun k => ?_)
  rw [run_evS AP_83 _ _ rfl]
  simp [c_83, q, hw]
  repeat' (first | (exfalso; omega) | (refine Gv.bool (by repeat (first | exact Nat.le_refl _ | apply le_nxt)) ?_; simp [valOk, *]; done) | refine Gv.ite (fun h => ?_) (fun h => ?_) | simp [*])
def opOk (p : GProg) (m : GMethod) (o : GOp) : Bool :=
  if o.kind = 1 then inR o.a 0 99
  else if o.kind = 2 ∨ o.kind = 3 then inR o.a 0 (m.temps - 1)
  else if o.kind = 7 ∨ o.kind = 8 then inR o.a 0 (m.ops.length - 1)
  else if o.kind = 9 then inR o.a 0 (p.length - 1)
  else if o.kind = 13 ∨ o.kind = 14 then inR o.a 0 3
  else inR o.kind 1 18 && decide (o.a = 0)
theorem r_106 (p : GProg) (m : GMethod) (o : GOp) (ht : 0 ≤ m.temps ∧ m.temps ≤ 1000) (hm : m.ops.length ≤ 2097152) (hp : p.length ≤ 2097152) : Q mt 106 [aProg p, aMethod m, aOp o] (.bool (opOk p m o)) := by
  have q := fun a b c => r_55 (mt := mt) a b c
  unfold Q at q
  have hw : IntKind.i64.wrap (m.temps - 1) = m.temps - 1 := wrap_id (by omega) (by omega)
  have hw2 : IntKind.i64.wrap ((m.ops.length : Int) - 1) = m.ops.length - 1 := wrap_id (by omega) (by omega)
  have hw3 : IntKind.i64.wrap ((p.length : Int) - 1) = p.length - 1 := wrap_id (by omega) (by omega)
  refine Q.of rfl (fun k => ?_)
  rw [run_evS AP_106 _ _ rfl]
  simp [c_106, q, hw, hw2, hw3]
  repeat' (first | (exfalso; omega) | (refine Gv.bool (by repeat (first | exact Nat.le_refl _ | apply le_nxt)) ?_; simp [opOk, *]; done) | refine Gv.ite (fun h => ?_) (fun h => ?_) | simp [*])
end Go.Ai
set_option linter.unusedSimpArgs false
set_option linter.unusedVariables false
namespace Go.Ai
variable {mt : Nat → Nat → Option Nat}
attribute [local simp] cnd_ite gS_ite
theorem al_84 (l : List GVal) (c : Int) (hcn : 0 ≤ c ∧ c ≤ 4611686018427387904) (hl : (l).length ≤ 1099511627776) (k : Nat) (S : List KF)
    (hR : ∀ fr m, k ≤ m → fr 4 = .bool false → Gv k (.bool false) (unw AP mt .ret fr ⟨m, noObj⟩ S)) (hE : ∀ fr m, k ≤ m → Gv k (.bool true) (unw AP mt (.exit 0) fr ⟨m, noObj⟩ S)) :
    ∀ (j i n : Nat), i + j = (l).length → k ≤ n → Gv k (.bool (((l).drop i).all (fun v => valOk v c))) (evS AP mt (.loop l_84_0) (upd (upd (upd fr0 5 (vi i)) 1 (vi c)) 0 (lVal l)) ⟨n, noObj⟩ S) := by
  intro j
  induction j with
  | zero =>
    intro i n hij hn
    rw [S_loop]
    have hc : ¬ ((i : Int) < (l).length) := by omega
    have hd : (l).drop i = [] := List.drop_eq_nil_iff.2 (by omega)
    simp [u_84_0, b_84_0, hc, hd]
    exact hE _ _ hn
  | succ j ih =>
    intro i n hij hn
    have hlt : i < (l).length := by omega
    obtain ⟨m, hm⟩ : ∃ m, (l)[i]? = some m := ⟨_, List.getElem?_eq_getElem hlt⟩
    have hmm := List.mem_of_getElem? hm
    have hc : (i : Int) < (l).length := by omega
    have hwr : IntKind.i64.wrap ((i : Int) + 1) = (i : Int) + 1 := wrap_id (by omega) (by omega)
    have hix := fun g => idx_ok (g := g) (k := .i64) (w_Val (l)) (show (0:Int) ≤ i by omega) (by simpa using hc)
    have q := r_83 (mt := mt) m c hcn
    unfold Q at q
    have hi := fun n' h' => ih (i + 1) n' (by omega) h'
    rw [drop_cons hm, S_loop]
    rw [show ((i + 1 : Nat) : Int) = (i : Int) + 1 from by omega] at hi
    simp only [List.all_cons]
    cases hP : (fun v => valOk v c) m
    · simp [u_84_0, b_84_0, hc, hix, hm, hwr, q, hP]
      exact hR _ _ (by repeat (first | exact hn | apply le_nxt)) (by simp)
    · simp [u_84_0, b_84_0, hc, hix, hm, hwr, q, hP]
      exact hi _ (by repeat (first | exact hn | apply le_nxt))

theorem r_84 (l : List GVal) (c : Int) (hcn : 0 ≤ c ∧ c ≤ 4611686018427387904) (hl : l.length ≤ 1099511627776) : Q mt 84 [lVal l, vi c] (.bool (l.all fun v => valOk v c)) := by
  refine Q.of rfl (fun k => ?_)
  rw [run_evS AP_84 _ _ rfl]
  simp [c_84]
  refine al_84 (mt := mt) l c hcn hl k _ (fun fr m hm h => ?_) (fun fr m hm => ?_) l.length 0 k (by omega) (Nat.le_refl _)
  · simp [h]; exact Gv.bool hm rfl
  · simp; exact Gv.bool hm rfl
def methodOk (p : GProg) (m : GMethod) : Bool := inR m.args 0 2 && (inR m.temps m.args 4 && (decide (m.ops.length ≤ 14) && m.ops.all (opOk p m)))
theorem al_82 (p : GProg) (d : GMethod) (hp : p.length ≤ 2097152) (ht : 0 ≤ d.temps ∧ d.temps ≤ 1000) (hd : d.ops.length ≤ 2097152) (hl : (d.ops).length ≤ 1099511627776) (k : Nat) (S : List KF)
    (hR : ∀ fr m, k ≤ m → fr 4 = .bool false → Gv k (.bool false) (unw AP mt .ret fr ⟨m, noObj⟩ S)) (hE : ∀ fr m, k ≤ m → Gv k (.bool true) (unw AP mt (.exit 0) fr ⟨m, noObj⟩ S)) :
    ∀ (j i n : Nat), i + j = (d.ops).length → k ≤ n → Gv k (.bool (((d.ops).drop i).all (opOk p d))) (evS AP mt (.loop l_82_0) (upd (upd (upd fr0 5 (vi i)) 3 (.pbox [vi d.args, vi d.temps, lOp d.ops])) 2 (.pbox [lMethod p])) ⟨n, noObj⟩ S) := by
  intro j
  induction j with
  | zero =>
    intro i n hij hn
    rw [S_loop]
    have hc : ¬ ((i : Int) < (d.ops).length) := by omega
    have hd : (d.ops).drop i = [] := List.drop_eq_nil_iff.2 (by omega)
    simp [u_82_0, b_82_0, hc, hd]
    exact hE _ _ hn
  | succ j ih =>
    intro i n hij hn
    have hlt : i < (d.ops).length := by omega
    obtain ⟨m, hm⟩ : ∃ m, (d.ops)[i]? = some m := ⟨_, List.getElem?_eq_getElem hlt⟩
    have hmm := List.mem_of_getElem? hm
    have hc : (i : Int) < (d.ops).length := by omega
    have hwr : IntKind.i64.wrap ((i : Int) + 1) = (i : Int) + 1 := wrap_id (by omega) (by omega)
    have hix := fun g => idx_ok (g := g) (k := .i64) (w_Op (d.ops)) (show (0:Int) ≤ i by omega) (by simpa using hc)
    have q := r_106 (mt := mt) p d m ht hd hp
    unfold Q at q
    have hi := fun n' h' => ih (i + 1) n' (by omega) h'
    rw [drop_cons hm, S_loop]
    rw [show ((i + 1 : Nat) : Int) = (i : Int) + 1 from by omega] at hi
    simp only [List.all_cons]
    cases hP : opOk p d m
    · simp [u_82_0, b_82_0, hc, hix, hm, hwr, q, hP]
      exact hR _ _ (by repeat (first | exact hn | apply le_nxt)) (by simp)
    · simp [u_82_0, b_82_0, hc, hix, hm, hwr, q, hP]
      exact hi _ (by repeat (first | exact hn | apply le_nxt))

theorem r_82 (p : GProg) (d : GMethod) (hp : p.length ≤ 2097152) (hd : d.ops.length ≤ 2097152) : Q mt 82 [aProg p, aMethod d] (.bool (methodOk p d)) := by
  have q := fun a b c => r_55 (mt := mt) a b c
  unfold Q at q
  refine Q.of rfl (fun k => ?_)
  rw [run_evS AP_82 _ _ rfl]
  cases h1 : inR d.args 0 2
  · simp [c_82, q, h1, methodOk]
    exact Gv.bool (by repeat (first | exact Nat.le_refl _ | apply le_nxt)) rfl
  · cases h2 : inR d.temps d.args 4
    · simp [c_82, q, h1, h2, methodOk]
      exact Gv.bool (by repeat (first | exact Nat.le_refl _ | apply le_nxt)) rfl
    · by_cases h3 : d.ops.length ≤ 14
      · have h3' : ¬ (14 < (d.ops.length : Int)) := by omega
        have h4 : 0 ≤ d.temps ∧ d.temps ≤ 1000 := by simp [inR] at h1 h2; omega
        simp [c_82, q, h1, h2, h3, h3', methodOk]
        refine al_82 (mt := mt) p d hp h4 hd (by omega) k _ (fun fr m hm h => ?_) (fun fr m hm => ?_) d.ops.length 0 _ (by omega) (by repeat (first | exact Nat.le_refl _ | apply le_nxt))
        · simp [h]; exact Gv.bool hm rfl
        · simp; exact Gv.bool hm rfl
      · have h3' : (14 < (d.ops.length : Int)) := by omega
        simp [c_82, q, h1, h2, h3, h3', methodOk]
        exact Gv.bool (by repeat (first | exact Nat.le_refl _ | apply le_nxt)) rfl
def progOk (p : GProg) : Bool := inR p.length 1 4 && (decide ((p.head?.map (·.args)).getD 1 = 0) && p.all (methodOk p))
theorem al_54 (p : GProg) (hs : ∀ m ∈ p, m.ops.length ≤ 2097152) (hp : p.length ≤ 2097152) (hl : (p).length ≤ 1099511627776) (k : Nat) (S : List KF)
    (hR : ∀ fr m, k ≤ m → fr 2 = .bool false → Gv k (.bool false) (unw AP mt .ret fr ⟨m, noObj⟩ S)) (hE : ∀ fr m, k ≤ m → Gv k (.bool true) (unw AP mt (.exit 0) fr ⟨m, noObj⟩ S)) :
    ∀ (j i n : Nat), i + j = (p).length → k ≤ n → Gv k (.bool (((p).drop i).all (methodOk p))) (evS AP mt (.loop l_54_0) (upd (upd fr0 3 (vi i)) 1 (.pbox [lMethod p])) ⟨n, noObj⟩ S) := by
  intro j
  induction j with
  | zero =>
    intro i n hij hn
    rw [S_loop]
    have hc : ¬ ((i : Int) < (p).length) := by omega
    have hd : (p).drop i = [] := List.drop_eq_nil_iff.2 (by omega)
    simp [u_54_0, b_54_0, hc, hd]
    exact hE _ _ hn
  | succ j ih =>
    intro i n hij hn
    have hlt : i < (p).length := by omega
    obtain ⟨m, hm⟩ : ∃ m, (p)[i]? = some m := ⟨_, List.getElem?_eq_getElem hlt⟩
    have hmm := List.mem_of_getElem? hm
    have hc : (i : Int) < (p).length := by omega
    have hwr : IntKind.i64.wrap ((i : Int) + 1) = (i : Int) + 1 := wrap_id (by omega) (by omega)
    have hix := fun g => idx_ok (g := g) (k := .i64) (w_Method (p)) (show (0:Int) ≤ i by omega) (by simpa using hc)
    have q := r_82 (mt := mt) p m hp (hs m hmm)
    unfold Q at q
    have hi := fun n' h' => ih (i + 1) n' (by omega) h'
    rw [drop_cons hm, S_loop]
    rw [show ((i + 1 : Nat) : Int) = (i : Int) + 1 from by omega] at hi
    simp only [List.all_cons]
    cases hP : methodOk p m
    · simp [u_54_0, b_54_0, hc, hix, hm, hwr, q, hP]
      exact hR _ _ (by repeat (first | exact hn | apply le_nxt)) (by simp)
    · simp [u_54_0, b_54_0, hc, hix, hm, hwr, q, hP]
      exact hi _ (by repeat (first | exact hn | apply le_nxt))

theorem r_54 (p : GProg) (h : ShP p) : Q mt 54 [aProg p] (.bool (progOk p)) := by
  have q := fun a b c => r_55 (mt := mt) a b c
  unfold Q at q
  refine Q.of rfl (fun k => ?_)
  rw [run_evS AP_54 _ _ rfl]
  cases h1 : inR p.length 1 4
  · simp [c_54, q, h1, progOk]
    exact Gv.bool (by repeat (first | exact Nat.le_refl _ | apply le_nxt)) rfl
  · have hl : 1 ≤ p.length := by simp [inR] at h1; omega
    obtain ⟨d, ds, hd⟩ : ∃ d ds, p = d :: ds := by
      cases p with
      | nil => simp at hl
      | cons d ds => exact ⟨d, ds, rfl⟩
    have hg : p[0]? = some d := by rw [hd]; rfl
    have hh : p.head? = some d := by rw [hd]; rfl
    have hix := fun g => idx_ok (g := g) (k := .i64) (w_Method p) (show (0:Int) ≤ 0 by omega) (by simp; omega)
    by_cases h2 : d.args = 0
    · simp [c_54, q, h1, hix, hg, hh, h2, progOk]
      refine al_54 (mt := mt) p h.m h.l (by have := h.l; omega) k _ (fun fr m hm h => ?_) (fun fr m hm => ?_) p.length 0 _ (by omega) (by repeat (first | exact Nat.le_refl _ | apply le_nxt))
      · simp [h]; exact Gv.bool hm rfl
      · simp; exact Gv.bool hm rfl
    · simp [c_54, q, h1, hix, hg, hh, h2, progOk]
      exact Gv.bool (by repeat (first | exact Nat.le_refl _ | apply le_nxt)) rfl
def saidOk (p : GProg) (v : GVal) : Bool := if v.kind = 2 then inR v.num 0 (p.length - 1) else valOk v 0
theorem al_56 (p : GProg) (l : List GVal) (hp : p.length ≤ 2097152) (hl : (l).length ≤ 1099511627776) (k : Nat) (S : List KF)
    (hR : ∀ fr m, k ≤ m → fr 4 = .bool false → Gv k (.bool false) (unw AP mt .ret fr ⟨m, noObj⟩ S)) (hE : ∀ fr m, k ≤ m → Gv k (.bool true) (unw AP mt (.exit 0) fr ⟨m, noObj⟩ S)) :
    ∀ (j i n : Nat), i + j = (l).length → k ≤ n → Gv k (.bool (((l).drop i).all (saidOk p))) (evS AP mt (.loop l_56_0) (upd (upd (upd fr0 5 (vi i)) 2 (.pbox [lMethod p])) 1 (lVal l)) ⟨n, noObj⟩ S) := by
  intro j
  induction j with
  | zero =>
    intro i n hij hn
    rw [S_loop]
    have hc : ¬ ((i : Int) < (l).length) := by omega
    have hd : (l).drop i = [] := List.drop_eq_nil_iff.2 (by omega)
    simp [u_56_0, b_56_0, hc, hd]
    exact hE _ _ hn
  | succ j ih =>
    intro i n hij hn
    have hlt : i < (l).length := by omega
    obtain ⟨m, hm⟩ : ∃ m, (l)[i]? = some m := ⟨_, List.getElem?_eq_getElem hlt⟩
    have hmm := List.mem_of_getElem? hm
    have hc : (i : Int) < (l).length := by omega
    have hwr : IntKind.i64.wrap ((i : Int) + 1) = (i : Int) + 1 := wrap_id (by omega) (by omega)
    have hix := fun g => idx_ok (g := g) (k := .i64) (w_Val (l)) (show (0:Int) ≤ i by omega) (by simpa using hc)
    have q := r_83 (mt := mt) m 0 (by omega)
    have q2 := fun a b c => r_55 (mt := mt) a b c
    unfold Q at q q2
    have hi := fun n' h' => ih (i + 1) n' (by omega) h'
    rw [drop_cons hm, S_loop]
    rw [show ((i + 1 : Nat) : Int) = (i : Int) + 1 from by omega] at hi
    simp only [List.all_cons]
    have hw3 : IntKind.i64.wrap ((p.length : Int) - 1) = p.length - 1 := wrap_id (by omega) (by omega)
    by_cases hk : m.kind = 2
    · have hq3 : saidOk p m = inR m.num 0 (p.length - 1) := by simp [saidOk, hk]
      rw [hq3]
      cases hP : inR m.num 0 (p.length - 1)
      · simp [u_56_0, b_56_0, hc, hix, hm, hwr, q, q2, hk, hP, hw3]
        exact hR _ _ (by repeat (first | exact hn | apply le_nxt)) (by simp)
      · simp [u_56_0, b_56_0, hc, hix, hm, hwr, q, q2, hk, hP, hw3]
        exact hi _ (by repeat (first | exact hn | apply le_nxt))
    · have hq3 : saidOk p m = valOk m 0 := by simp [saidOk, hk]
      rw [hq3]
      cases hP : valOk m 0
      · simp [u_56_0, b_56_0, hc, hix, hm, hwr, q, q2, hk, hP]
        exact hR _ _ (by repeat (first | exact hn | apply le_nxt)) (by simp)
      · simp [u_56_0, b_56_0, hc, hix, hm, hwr, q, q2, hk, hP]
        exact hi _ (by repeat (first | exact hn | apply le_nxt))

theorem r_56 (p : GProg) (l : List GVal) (hp : p.length ≤ 2097152) (hl : l.length ≤ 1099511627776) : Q mt 56 [aProg p, lVal l] (.bool (l.all (saidOk p))) := by
  refine Q.of rfl (fun k => ?_)
  rw [run_evS AP_56 _ _ rfl]
  simp [c_56]
  refine al_56 (mt := mt) p l hp hl k _ (fun fr m hm h => ?_) (fun fr m hm => ?_) l.length 0 k (by omega) (Nat.le_refl _)
  · simp [h]; exact Gv.bool hm rfl
  · simp; exact Gv.bool hm rfl
end Go.Ai
set_option linter.unusedSimpArgs false
set_option linter.unusedVariables false
namespace Go.Ai
variable {mt : Nat → Nat → Option Nat}
attribute [local simp] cnd_ite gS_ite
theorem inR_iff {n lo hi : Int} : inR n lo hi = true ↔ lo ≤ n ∧ n ≤ hi := by simp [inR]
/-- What is asked of a call of a method. -/
def formM (m : GMethod) (c : GCall) (n : Int) : Bool :=
  inR c.pc 0 m.ops.length && (decide ((c.temps.length : Int) = m.temps) && (decide (c.stack.length ≤ 6) && (inR c.sender (-1) (n - 1) && (c.temps.all (fun v => valOk v n) && (c.stack.all (fun v => valOk v n) &&
    (!c.dead || (decide (c.sender = -1) && decide (c.stack.length = 0))))))))
def formOk (p : GProg) (c : GCall) (n : Int) : Bool := inR c.method 0 (p.length - 1) && (match p[c.method.toNat]? with | some m => formM m c n | none => false)
theorem r_57 (p : GProg) (c : GCall) (n : Int) (hp : ShP p) (hn : 0 ≤ n ∧ n ≤ 2097152) (hc : c.temps.length ≤ 2097152 ∧ c.stack.length ≤ 2097152) : Q mt 57 [aProg p, aCall c, vi n] (.bool (formOk p c n)) := by
  have q := fun a b c => r_55 (mt := mt) a b c
  have qt := r_84 (mt := mt) c.temps n (by omega) (by omega)
  have qs := r_84 (mt := mt) c.stack n (by omega) (by omega)
  unfold Q at q qt qs
  have hpl := hp.l
  have hw1 : IntKind.i64.wrap ((p.length : Int) - 1) = p.length - 1 := wrap_id (by omega) (by omega)
  have hw2 : IntKind.i64.wrap (n - 1) = n - 1 := wrap_id (by omega) (by omega)
  refine Q.of rfl (fun k => ?_)
  rw [run_evS AP_57 _ _ rfl]
  cases h1 : inR c.method 0 (p.length - 1)
  · simp [c_57, q, hw1, h1, formOk]
    exact Gv.bool (by repeat (first | exact Nat.le_refl _ | apply le_nxt)) rfl
  have h1' := inR_iff.1 h1
  obtain ⟨m, hm⟩ : ∃ m, p[c.method.toNat]? = some m := ⟨_, List.getElem?_eq_getElem (by omega)⟩
  have hix := fun g => idx_ok (g := g) (k := .i64) (w_Method p) (show (0:Int) ≤ c.method by omega) (by simp; omega)
  have hf : formOk p c n = formM m c n := by simp [formOk, h1, hm]
  rw [hf]
  unfold formM
  cases h2 : inR c.pc 0 m.ops.length
  · simp [c_57, q, hw1, hw2, h1, h2, hix, hm]
    exact Gv.bool (by repeat (first | exact Nat.le_refl _ | apply le_nxt)) rfl
  by_cases h3 : (c.temps.length : Int) = m.temps
  rotate_left
  · simp [c_57, q, hw1, hw2, h1, h2, h3, hix, hm]
    exact Gv.bool (by repeat (first | exact Nat.le_refl _ | apply le_nxt)) rfl
  by_cases h4 : c.stack.length ≤ 6
  rotate_left
  · have h4' : 6 < (c.stack.length : Int) := by omega
    simp [c_57, q, hw1, hw2, h1, h2, h3, h4, h4', hix, hm]
    exact Gv.bool (by repeat (first | exact Nat.le_refl _ | apply le_nxt)) rfl
  have h4' : ¬ (6 < (c.stack.length : Int)) := by omega
  cases h5 : inR c.sender (-1) (n - 1)
  · simp [c_57, q, hw1, hw2, h1, h2, h3, h4, h4', h5, hix, hm]
    exact Gv.bool (by repeat (first | exact Nat.le_refl _ | apply le_nxt)) rfl
  cases h6 : c.temps.all (fun v => valOk v n)
  · simp [c_57, q, qt, qs, hw1, hw2, h1, h2, h3, h4, h4', h5, h6, hix, hm]
    exact Gv.bool (by repeat (first | exact Nat.le_refl _ | apply le_nxt)) rfl
  cases h7 : c.stack.all (fun v => valOk v n)
  · simp [c_57, q, qt, qs, hw1, hw2, h1, h2, h3, h4, h4', h5, h6, h7, hix, hm]
    exact Gv.bool (by repeat (first | exact Nat.le_refl _ | apply le_nxt)) rfl
  cases h8 : c.dead
  · simp [c_57, q, qt, qs, hw1, hw2, h1, h2, h3, h4, h4', h5, h6, h7, h8, hix, hm]
    exact Gv.bool (by repeat (first | exact Nat.le_refl _ | apply le_nxt)) rfl
  by_cases h9 : c.sender = -1
  rotate_left
  · simp [c_57, q, qt, qs, hw1, hw2, h1, h2, h3, h4, h4', h5, h6, h7, h8, h9, hix, hm]
    exact Gv.bool (by repeat (first | exact Nat.le_refl _ | apply le_nxt)) rfl
  simp only [h9] at h5
  by_cases h10 : c.stack.length = 0
  · simp [c_57, q, qt, qs, hw1, hw2, h1, h2, h3, h4, h4', h5, h6, h7, h8, h9, h10, hix, hm]
    exact Gv.bool (by repeat (first | exact Nat.le_refl _ | apply le_nxt)) rfl
  · simp [c_57, q, qt, qs, hw1, hw2, h1, h2, h3, h4, h4', h5, h6, h7, h8, h9, h10, hix, hm]
    exact Gv.bool (by repeat (first | exact Nat.le_refl _ | apply le_nxt)) rfl
end Go.Ai
