/- The program's test of a call. The program's HeapOk and HeapNext. The program's HeapOk is the specification's. -/
import Derived.Test.YtffliemhdjcflaaB7
set_option linter.unusedSimpArgs false
set_option linter.unusedVariables false
namespace Go.Ai
variable {mt : Nat → Nat → Option Nat}
attribute [local simp] cnd_ite gS_ite
theorem m_68 (p : GProg) (c : GCall) (n : Int) (hp : ShP p) (hn : 0 ≤ n ∧ n ≤ 2097152) (hc : c.temps.length ≤ 2097152 ∧ c.stack.length ≤ 2097152) : Q mt 68 [aCall c, aProg p, vi n] (.bool (formOk p c n)) := by
  have q := fun a b c => r_66 (mt := mt) a b c
  have qt := m_96 (mt := mt) c.temps n (by omega) hc.1
  have qs := m_96 (mt := mt) c.stack n (by omega) hc.2
  unfold Q at q qt qs
  have hpl := hp.l
  have hw1 : IntKind.i64.wrap ((p.length : Int) - 1) = p.length - 1 := wrap_id (by omega) (by omega)
  have hw2 : IntKind.i64.wrap (n - 1) = n - 1 := wrap_id (by omega) (by omega)
  refine Q.of rfl (fun k => ?_)
  rw [run_evS AP_68 _ _ rfl]
  cases h1 : inR c.method 0 (p.length - 1)
  · simp [c_68, q, hw1, h1, formOk]
    exact Gv.bool (by repeat (first | exact Nat.le_refl _ | apply le_nxt)) rfl
  have h1' := inR_iff.1 h1
  obtain ⟨m, hm⟩ : ∃ m, p[c.method.toNat]? = some m := ⟨_, List.getElem?_eq_getElem (by omega)⟩
  have hix := fun g => idx_ok (g := g) (k := .i64) (w_Method p) (show (0:Int) ≤ c.method by omega) (by simp; omega)
  have hf : formOk p c n = formM m c n := by simp [formOk, h1, hm]
  rw [hf]
  unfold formM
  cases h2 : inR c.pc 0 m.ops.length
  · simp [c_68, q, hw1, hw2, h1, h2, hix, hm]
    exact Gv.bool (by repeat (first | exact Nat.le_refl _ | apply le_nxt)) rfl
  by_cases h3 : (c.temps.length : Int) = m.temps
  rotate_left
  · simp [c_68, q, hw1, hw2, h1, h2, h3, hix, hm]
    exact Gv.bool (by repeat (first | exact Nat.le_refl _ | apply le_nxt)) rfl
  by_cases h4 : c.stack.length ≤ 6
  rotate_left
  · have h4' : 6 < (c.stack.length : Int) := by omega
    simp [c_68, q, hw1, hw2, h1, h2, h3, h4, h4', hix, hm]
    exact Gv.bool (by repeat (first | exact Nat.le_refl _ | apply le_nxt)) rfl
  have h4' : ¬ (6 < (c.stack.length : Int)) := by omega
  cases h6 : c.temps.all (fun v => valOk v n)
  · simp [c_68, q, qt, qs, hw1, hw2, h1, h2, h3, h4, h4', h6, hix, hm]
    exact Gv.bool (by repeat (first | exact Nat.le_refl _ | apply le_nxt)) rfl
  cases h7 : c.stack.all (fun v => valOk v n)
  · simp [c_68, q, qt, qs, hw1, hw2, h1, h2, h3, h4, h4', h6, h7, hix, hm]
    exact Gv.bool (by repeat (first | exact Nat.le_refl _ | apply le_nxt)) rfl
  cases h5 : inR c.sender (-1) (n - 1)
  · simp [c_68, q, hw1, hw2, h1, h2, h3, h4, h4', h6, h7, h5, qt, qs, hix, hm]
    exact Gv.bool (by repeat (first | exact Nat.le_refl _ | apply le_nxt)) rfl
  cases h8 : c.dead
  · simp [c_68, q, qt, qs, hw1, hw2, h1, h2, h3, h4, h4', h5, h6, h7, h8, hix, hm]
    exact Gv.bool (by repeat (first | exact Nat.le_refl _ | apply le_nxt)) rfl
  by_cases h9 : c.sender = -1
  rotate_left
  · by_cases h10 : c.stack.length = 0
    · simp [c_68, q, qt, qs, hw1, hw2, h1, h2, h3, h4, h4', h5, h6, h7, h8, h9, h10, hix, hm]
      exact Gv.bool (by repeat (first | exact Nat.le_refl _ | apply le_nxt)) rfl
    · simp [c_68, q, qt, qs, hw1, hw2, h1, h2, h3, h4, h4', h5, h6, h7, h8, h9, h10, hix, hm]
      exact Gv.bool (by repeat (first | exact Nat.le_refl _ | apply le_nxt)) rfl
  simp only [h9] at h5
  by_cases h10 : c.stack.length = 0
  · simp [c_68, q, qt, qs, hw1, hw2, h1, h2, h3, h4, h4', h5, h6, h7, h8, h9, h10, hix, hm]
    exact Gv.bool (by repeat (first | exact Nat.le_refl _ | apply le_nxt)) rfl
  · simp [c_68, q, qt, qs, hw1, hw2, h1, h2, h3, h4, h4', h5, h6, h7, h8, h9, h10, hix, hm]
    exact Gv.bool (by repeat (first | exact Nat.le_refl _ | apply le_nxt)) rfl
end Go.Ai
set_option linter.unusedSimpArgs false
set_option linter.unusedVariables false
namespace Go.Ai
variable {mt : Nat → Nat → Option Nat}
attribute [local simp] cnd_ite gS_ite
def liveN (l : List GCall) : Nat := (l.filter (fun c => !c.dead)).length
theorem ml_35 (p : GProg) (h : GHeap) (hp : ShP p) (hh : ShH h) (k : Nat) (S : List KF) (vF : AVal) (vE : Int → AVal)
    (hR : ∀ fr m, k ≤ m → fr 4 = .bool false → Gv k vF (unw AP mt .ret fr ⟨m, noObj⟩ S))
    (hE : (∀ c ∈ h.calls, formOk p c h.calls.length = true) → ∀ (lv : Int) fr m, 0 ≤ lv ∧ lv ≤ h.calls.length → k ≤ m → fr 3 = .pbox [lCall h.calls, vi h.now, vi h.born, lVal h.said, vi h.code] → fr 5 = vi lv → Gv k (vE lv) (unw AP mt (.exit 0) fr ⟨m, noObj⟩ S)) :
    ∀ (j i n : Nat) (lv : Int), i + j = h.calls.length → k ≤ n → 0 ≤ lv ∧ lv ≤ i → (∀ t c, t < i → h.calls[t]? = some c → formOk p c h.calls.length = true) →
      Gv k (if (h.calls.drop i).all (fun c => formOk p c h.calls.length) = true then vE (lv + live' (h.calls.drop i)) else vF)
        (evS AP mt (.loop l_35_0) (upd (upd (upd (upd (upd (upd fr0 48 (vi i)) 47 (vi h.calls.length)) 46 (lCall h.calls)) 5 (vi lv)) 3 (.pbox [lCall h.calls, vi h.now, vi h.born, lVal h.said, vi h.code])) 2 (.pbox [lMethod p])) ⟨n, noObj⟩ S) := by
  have hhl := hh.l
  intro j
  induction j with
  | zero =>
    intro i n lv hij hn hlv hpre
    rw [S_loop]
    have hc : ¬ ((i : Int) < h.calls.length) := by omega
    have hd : h.calls.drop i = [] := List.drop_eq_nil_iff.2 (by omega)
    simp [u_35_0, b_35_0, hc, hd, live']
    have hall : ∀ c ∈ h.calls, formOk p c h.calls.length = true := fun c hc => by
      obtain ⟨t, ht⟩ := List.getElem?_of_mem hc
      exact hpre t c (by have := (List.getElem?_eq_some_iff.1 ht).1; omega) ht
    exact hE hall lv _ _ ⟨hlv.1, by omega⟩ hn (by simp) (by simp)
  | succ j ih =>
    intro i n lv hij hn hlv hpre
    have hlt : i < h.calls.length := by omega
    obtain ⟨m, hm⟩ : ∃ m, h.calls[i]? = some m := ⟨_, List.getElem?_eq_getElem hlt⟩
    have hmm := List.mem_of_getElem? hm
    have hc : (i : Int) < h.calls.length := by omega
    have hwr : IntKind.i64.wrap ((i : Int) + 1) = (i : Int) + 1 := wrap_id (by omega) (by omega)
    have hwl : IntKind.i64.wrap (lv + 1) = lv + 1 := wrap_id (by omega) (by omega)
    have hix := fun g => idx_ok (g := g) (k := .i64) (w_Call h.calls) (show (0:Int) ≤ i by omega) (by simpa using hc)
    have q := m_68 (mt := mt) p m h.calls.length hp ⟨by omega, by omega⟩ (hh.c m hmm)
    unfold Q at q
    rw [drop_cons hm, S_loop]
    simp only [List.all_cons]
    rcases Bool.eq_false_or_eq_true (formOk p m h.calls.length) with hP | hP
    rotate_left
    · simp [u_35_0, b_35_0, hc, hix, hm, hwr, q, hP]
      exact hR _ _ (by repeat (first | exact hn | apply le_nxt)) (by simp)
    · have hi := fun n' lv' h' h'' => ih (i + 1) n' lv' (by omega) h' h'' (fun t c ht hct => by
        by_cases e : t = i
        · subst e; rw [hm] at hct; injection hct with hct; subst hct; exact hP
        · exact hpre t c (by omega) hct)
      rw [show ((i + 1 : Nat) : Int) = (i : Int) + 1 from by omega] at hi
      rcases Bool.eq_false_or_eq_true m.dead with hd | hd
      rotate_left
      · have hv : live' (m :: h.calls.drop (i + 1)) = 1 + live' (h.calls.drop (i + 1)) := by simp [live', hd]; omega
        have hz := hi (nxt AP mt 68 [aCall m, aProg p, vi h.calls.length] n) (lv + 1) (le_nxt hn) (by omega)
        rw [show lv + 1 + live' (h.calls.drop (i + 1)) = lv + live' (m :: h.calls.drop (i + 1)) from by omega] at hz
        have q' := q
        simp only [aCall, hd] at q'
        simp [u_35_0, b_35_0, hc, hix, hm, hwr, hwl, q', hP, hd]
        simp only [aCall, hd] at hz
        simpa using hz
      · have hv : live' (m :: h.calls.drop (i + 1)) = live' (h.calls.drop (i + 1)) := by simp [live', hd]
        have hz := hi (nxt AP mt 68 [aCall m, aProg p, vi h.calls.length] n) lv (le_nxt hn) (by omega)
        rw [← hv] at hz
        have q' := q
        simp only [aCall, hd] at q'
        simp [u_35_0, b_35_0, hc, hix, hm, hwr, hwl, q', hP, hd]
        simp only [aCall, hd] at hz
        simpa using hz
/-- The walk from a call on: so many are alive. -/
def walkI (calls : List GCall) (now : Int) : Nat → Int → Bool
  | 0, at' => decide (at' < 0)
  | a + 1, at' => if at' < 0 then false else match calls[at'.toNat]? with
    | some c => if c.dead then false else if at' ≠ now ∧ c.stack.length = 6 then false else walkI calls now a c.sender
    | none => false
theorem ml2_35 (h : GHeap) (hh : ShH h) (hs : ∀ c ∈ h.calls, -1 ≤ c.sender ∧ c.sender < h.calls.length) (k : Nat) (S : List KF)
    (hR : ∀ fr m, k ≤ m → fr 4 = .bool false → Gv k (.bool false) (unw AP mt .ret fr ⟨m, noObj⟩ S))
    (hE : ∀ fr m lv, k ≤ m → fr 5 = vi lv → Gv k (.bool (decide (lv = 0))) (unw AP mt (.exit 2) fr ⟨m, noObj⟩ S)) :
    ∀ (a n : Nat) (at' : Int), a ≤ 2097152 → k ≤ n → -1 ≤ at' ∧ at' < h.calls.length →
      Gv k (.bool (walkI h.calls h.now a at')) (evS AP mt (.loop l_35_1) (upd (upd (upd fr0 8 (vi at')) 5 (vi a)) 3 (.pbox [lCall h.calls, vi h.now, vi h.born, lVal h.said, vi h.code])) ⟨n, noObj⟩ S) := by
  intro a
  induction a with
  | zero =>
    intro n at' ha hn hat
    rw [S_loop]
    by_cases h0 : at' < 0
    · have h0' : ¬ 0 ≤ at' := by omega
      simp [u_35_1, b_35_1, h0, h0', walkI]
      simpa using hE (upd (upd (upd (upd fr0 68 (.bool false)) 8 (vi at')) 5 (vi 0)) 3 (.pbox [lCall h.calls, vi h.now, vi h.born, lVal h.said, vi h.code])) n 0 hn (by simp)
    · have h0' : 0 ≤ at' := by omega
      obtain ⟨c, hcc⟩ : ∃ c, h.calls[at'.toNat]? = some c := ⟨_, List.getElem?_eq_getElem (by omega)⟩
      have hix := fun g => idx_ok (g := g) (k := .i64) (w_Call h.calls) h0' (by simp; omega)
      have hw : IntKind.i64.wrap (-1) = -1 := wrap_id (by omega) (by omega)
      simp [u_35_1, b_35_1, h0, h0', walkI, hix, hcc, hw]
      exact hR _ _ (by repeat (first | exact hn | apply le_nxt)) (by simp)
  | succ a ih =>
    intro n at' ha hn hat
    rw [S_loop]
    have hw : IntKind.i64.wrap (((a + 1 : Nat) : Int) - 1) = (a : Int) := by rw [show ((a + 1 : Nat) : Int) - 1 = (a : Int) from by omega]; exact wrap_id (by omega) (by omega)
    have hw' : IntKind.i64.wrap (a : Int) = (a : Int) := wrap_id (by omega) (by omega)
    have ha0 : ¬ ((a : Int) < 0) := by omega
    by_cases h0 : at' < 0
    · have h0' : ¬ 0 ≤ at' := by omega
      have hz := hE (upd (upd (upd (upd fr0 68 (.bool false)) 8 (vi at')) 5 (vi ((a : Int) + 1))) 3 (.pbox [lCall h.calls, vi h.now, vi h.born, lVal h.said, vi h.code])) n ((a : Int) + 1) hn (by simp)
      have hne : ¬ ((a : Int) + 1 = 0) := by omega
      simp only [hne, decide_false] at hz
      simp [u_35_1, b_35_1, h0, h0', walkI]
      exact hz
    have h0' : 0 ≤ at' := by omega
    obtain ⟨c, hcc⟩ : ∃ c, h.calls[at'.toNat]? = some c := ⟨_, List.getElem?_eq_getElem (by omega)⟩
    have hix := fun g => idx_ok (g := g) (k := .i64) (w_Call h.calls) h0' (by simp; omega)
    have hsc := hs c (List.mem_of_getElem? hcc)
    cases hd : c.dead
    rotate_left
    · simp [u_35_1, b_35_1, h0, h0', walkI, hix, hcc, hw, hw', ha0, hd]
      exact hR _ _ (by repeat (first | exact hn | apply le_nxt)) (by simp)
    have hi := ih n c.sender (by omega) hn hsc
    by_cases h1 : at' = h.now
    · have h1' : (at' = h.now) = True := eq_true h1
      simp [u_35_1, b_35_1, h0, h0', walkI, hix, hcc, hw, hw', ha0, hd, h1']
      exact hi
    by_cases h2 : c.stack.length = 6
    · have h2' : ((c.stack.length : Int) = 6) = True := eq_true (by omega)
      simp [u_35_1, b_35_1, h0, h0', walkI, hix, hcc, hw, hw', ha0, hd, h1, h2, h2']
      exact hR _ _ (by repeat (first | exact hn | apply le_nxt)) (by simp)
    · have h2' : ¬ ((c.stack.length : Int) = 6) := by omega
      simp [u_35_1, b_35_1, h0, h0', walkI, hix, hcc, hw, hw', ha0, hd, h1, h2, h2']
      exact hi
end Go.Ai
set_option linter.unusedSimpArgs false
set_option linter.unusedVariables false
namespace Go.Ai
variable {mt : Nat → Nat → Option Nat}
attribute [local simp] cnd_ite gS_ite
def heapOkI (p : GProg) (h : GHeap) : Bool :=
  progOk p && (inR h.now (-1) (h.calls.length - 1) && (toldOk p h && (decide ((h.calls.length : Int) ≤ h.born) && (h.calls.all (fun c => formOk p c h.calls.length) && walkI h.calls h.now (liveN h.calls) h.now))))
theorem liveN_le (l : List GCall) : liveN l ≤ l.length := List.length_filter_le _ _
theorem m_35 (p : GProg) (h : GHeap) (hp : ShP p) (hh : ShH h) : Q mt 35 [aProg p, aHeap h] (.bool (heapOkI p h)) := by
  have q := fun a b c => r_66 (mt := mt) a b c
  have qp := m_65 (mt := mt) p hp
  have qt := m_67 (mt := mt) p h hp.l hh.s
  have hpl := hp.l
  have hhl := hh.l
  have hhs := hh.s
  unfold Q at q qp qt
  have hw1 : IntKind.i64.wrap ((h.calls.length : Int) - 1) = h.calls.length - 1 := wrap_id (by omega) (by omega)
  refine Q.of rfl (fun k => ?_)
  rw [run_evS AP_35 _ _ rfl]
  unfold heapOkI
  cases h1 : progOk p
  · simp [c_35, qp, hw1, h1]
    exact Gv.bool (by repeat (first | exact Nat.le_refl _ | apply le_nxt)) rfl
  cases h2 : inR h.now (-1) (h.calls.length - 1)
  · simp [c_35, qp, q, hw1, h1, h2]
    exact Gv.bool (by repeat (first | exact Nat.le_refl _ | apply le_nxt)) rfl
  cases h3 : toldOk p h
  · simp [c_35, qp, q, qt, hw1, h1, h2, h3]
    exact Gv.bool (by repeat (first | exact Nat.le_refl _ | apply le_nxt)) rfl
  by_cases h4 : (h.calls.length : Int) ≤ h.born
  rotate_left
  · have h4' : h.born < (h.calls.length : Int) := by omega
    simp [c_35, qp, q, qt, hw1, h1, h2, h3, h4, h4']
    exact Gv.bool (by repeat (first | exact Nat.le_refl _ | apply le_nxt)) rfl
  have h4' : ¬ h.born < (h.calls.length : Int) := by omega
  have h2' := inR_iff.1 h2
  have key : Gv k (if h.calls.all (fun c => formOk p c h.calls.length) = true then (fun lv : Int => AVal.bool (walkI h.calls h.now lv.toNat h.now)) (0 + live' h.calls) else .bool false) (evS AP mt c_35.body (argFr 0 [aProg p, aHeap h]) ⟨k, noObj⟩ [.fin c_35.res]) := by
    generalize hB : (if h.calls.all (fun c => formOk p c h.calls.length) = true then (fun lv : Int => AVal.bool (walkI h.calls h.now lv.toNat h.now)) (0 + live' h.calls) else .bool false) = B
    simp [c_35, qp, q, qt, hw1, h1, h2, h3, h4, h4']
    rw [← hB]
    refine ml_35 (mt := mt) p h hp hh k _ (.bool false) (fun lv : Int => AVal.bool (walkI h.calls h.now lv.toNat h.now)) (fun fr m hm g4 => ?_) (fun hall lv fr m hlv hm g3 g5 => ?_) h.calls.length 0 _ 0 (by omega) (by repeat (first | exact Nat.le_refl _ | apply le_nxt)) (by omega) (fun t c ht _ => by omega)
    · simp [g4]
      exact Gv.bool hm rfl
    · have hsend : ∀ c ∈ h.calls, -1 ≤ c.sender ∧ c.sender < h.calls.length := by
        intro c hc
        have hf := hall c hc
        simp only [formOk, Bool.and_eq_true] at hf
        obtain ⟨_, hf⟩ := hf
        cases hm : p[c.method.toNat]? with
        | none => rw [hm] at hf; cases hf
        | some m =>
          rw [hm] at hf
          simp only [formM, Bool.and_eq_true, inR_iff] at hf
          obtain ⟨_, _, _, hs, _⟩ := hf
          omega
      obtain ⟨a, rfl⟩ : ∃ a : Nat, lv = a := ⟨lv.toNat, by omega⟩
      have hlp := fun S hR hE n hn => ml2_35 (mt := mt) h hh hsend k S hR hE a n h.now (by omega) hn (by omega)
      simp [g3, g5]
      refine hlp _ (fun fr m' hm' g4 => ?_) (fun fr m' lv hm' g5 => ?_) _ hm
      · simp [g4]; exact Gv.bool hm' rfl
      · simp [g5]; exact Gv.bool hm' rfl
  have e : (0 + live' h.calls).toNat = liveN h.calls := by simp [live', liveN]
  by_cases h5 : h.calls.all (fun c => formOk p c h.calls.length) = true
  · rw [if_pos h5] at key
    simp only [e] at key
    simp only [h5, h4, decide_true, Bool.true_and, Bool.and_true]
    exact key
  · have h5' : h.calls.all (fun c => formOk p c h.calls.length) = false := by simpa using h5
    rw [if_neg h5] at key
    simp only [h5', h4, decide_true, Bool.true_and, Bool.and_true, Bool.false_and]
    exact key
/-- The chain, or none. -/
def chainO (calls : List GCall) : Nat → Int → Option (List Int)
  | 0, at' => if at' < 0 then some [] else none
  | f + 1, at' => if at' < 0 then some [] else if calls.length ≤ at' then none else match calls[at'.toNat]? with
    | some c => if c.dead then none else (chainO calls f c.sender).map (at' :: ·)
    | none => none
theorem chainF_O (calls : List GCall) : ∀ (f : Nat) (at' : Int) (out : List Int), chainF calls f at' out = match chainO calls f at' with | some l => out ++ l | none => [] := by
  intro f
  induction f with
  | zero =>
    intro at' out
    simp only [chainF, chainO]
    by_cases h : at' < 0 <;> simp [h]
  | succ f ih =>
    intro at' out
    simp only [chainF, chainO]
    by_cases h : at' < 0
    · simp [h]
    · rw [if_neg h, if_neg h]
      by_cases h2 : (calls.length : Int) ≤ at'
      · rw [if_pos h2, if_pos h2]
      · rw [if_neg h2, if_neg h2]
        cases hc : calls[at'.toNat]? with
        | none => rfl
        | some c =>
          simp only
          by_cases hd : c.dead = true
          · rw [if_pos hd, if_pos hd]
          · rw [if_neg hd, if_neg hd, ih]
            cases chainO calls f c.sender with
            | none => rfl
            | some l => simp
theorem walk_uniq (calls : List GCall) (now : Int) : ∀ (a b : Nat) (at' : Int), walkI calls now a at' = true → walkI calls now b at' = true → a = b := by
  intro a
  induction a with
  | zero =>
    intro b at' h1 h2
    simp only [walkI, decide_eq_true_eq] at h1
    cases b with
    | zero => rfl
    | succ b => simp only [walkI, if_pos h1] at h2; cases h2
  | succ a ih =>
    intro b at' h1 h2
    simp only [walkI] at h1
    split at h1
    · cases h1
    · rename_i h0
      cases b with
      | zero => simp only [walkI, decide_eq_true_eq] at h2; exact absurd h2 h0
      | succ b =>
        simp only [walkI, if_neg h0] at h2
        cases hc : calls[at'.toNat]? with
        | none => rw [hc] at h1; cases h1
        | some c =>
          rw [hc] at h1 h2
          simp only at h1 h2
          by_cases hd : c.dead = true
          · rw [if_pos hd] at h1; cases h1
          · rw [if_neg hd] at h1 h2
            by_cases he : at' ≠ now ∧ c.stack.length = 6
            · rw [if_pos he] at h1; cases h1
            · rw [if_neg he] at h1 h2
              rw [ih b _ h1 h2]
def roomN (h : GHeap) (x : Int) : Prop := ∃ c, h.calls[x.toNat]? = some c ∧ c.stack.length ≠ 6
theorem walk_chain (h : GHeap) : ∀ (a f : Nat) (at' : Int), walkI h.calls h.now a at' = true → a ≤ f → ∃ l, chainO h.calls f at' = some l ∧ l.length = a ∧ (∀ x ∈ l, x ≠ h.now → roomN h x) ∧ ∀ i x, l[i]? = some x → walkI h.calls h.now (a - i) x = true := by
  intro a
  induction a with
  | zero =>
    intro f at' hw hf
    simp only [walkI, decide_eq_true_eq] at hw
    refine ⟨[], ?_, rfl, by simp, by simp⟩
    cases f <;> simp [chainO, hw]
  | succ a ih =>
    intro f at' hw hf
    have hw0 := hw
    simp only [walkI] at hw
    split at hw
    · cases hw
    · rename_i h0
      cases hc : h.calls[at'.toNat]? with
      | none => rw [hc] at hw; cases hw
      | some c =>
        rw [hc] at hw
        simp only at hw
        by_cases hd : c.dead = true
        · rw [if_pos hd] at hw; cases hw
        · rw [if_neg hd] at hw
          by_cases he : at' ≠ h.now ∧ c.stack.length = 6
          · rw [if_pos he] at hw; cases hw
          · rw [if_neg he] at hw
            obtain ⟨g, rfl⟩ : ∃ g, f = g + 1 := ⟨f - 1, by omega⟩
            obtain ⟨l, h1, h2, h3, h4⟩ := ih g c.sender hw (by omega)
            have hlt := (List.getElem?_eq_some_iff.1 hc).1
            refine ⟨at' :: l, ?_, by simp [h2], fun x hx hne => ?_, fun i x hx => ?_⟩
            · simp only [chainO, if_neg h0, hc, if_neg hd, h1, Option.map_some]
              rw [if_neg (by omega)]
            · rcases List.mem_cons.1 hx with rfl | hx
              · exact ⟨c, hc, fun e6 => he ⟨hne, e6⟩⟩
              · exact h3 x hx hne
            · cases i with
              | zero => simp at hx; subst hx; exact hw0
              | succ i =>
                have := h4 i x (by simpa using hx)
                rw [show a + 1 - (i + 1) = a - i by omega]
                exact this
theorem chain_walk (h : GHeap) : ∀ (f : Nat) (at' : Int) (l : List Int), chainO h.calls f at' = some l → (∀ x ∈ l, x ≠ h.now → roomN h x) → walkI h.calls h.now l.length at' = true := by
  intro f
  induction f with
  | zero =>
    intro at' l hl _
    simp only [chainO] at hl
    split at hl
    · injection hl with hl; subst hl; simp [walkI]; assumption
    · cases hl
  | succ f ih =>
    intro at' l hl hr
    simp only [chainO] at hl
    split at hl
    · injection hl with hl; subst hl; simp [walkI]; assumption
    · rename_i h0
      split at hl
      · cases hl
      · split at hl
        · rename_i c hc
          split at hl
          · cases hl
          · rename_i hd
            simp only [Option.map_eq_some_iff] at hl
            obtain ⟨l', hl', rfl⟩ := hl
            have hw := ih c.sender l' hl' (fun x hx => hr x (List.mem_cons_of_mem _ hx))
            simp only [List.length_cons, walkI, if_neg h0, hc, if_neg hd]
            rw [if_neg]
            · exact hw
            · rintro ⟨hne, h6⟩
              obtain ⟨c', hc', h6'⟩ := hr at' (List.mem_cons_self ..) hne
              rw [hc] at hc'
              injection hc' with hc'
              subst hc'
              exact h6' h6
        · cases hl
theorem valOk_said (p : GProg) (v : GVal) : valOk v p.length = saidOk p v := by
  unfold valOk saidOk valOk
  by_cases h : v.kind = 2
  · simp [h]
  · by_cases h0 : v.kind = 0
    · simp [h0]
    · by_cases h1 : v.kind = 1
      · simp [h1]
      · simp [h, h0, h1]
/-- The plain law. -/
theorem tail_eq (p : GProg) (h : GHeap) (hn : -1 ≤ h.now ∧ h.now ≤ h.calls.length - 1) (hall : ∀ c ∈ h.calls, formOk p c h.calls.length = true) : walkI h.calls h.now (liveN h.calls) h.now = tailOk h (live' h.calls) := by
  have hst : ∀ c ∈ h.calls, c.stack.length ≤ 6 := by
    intro c hc
    have hf := hall c hc
    simp only [formOk, Bool.and_eq_true] at hf
    obtain ⟨_, hf⟩ := hf
    cases hm : p[c.method.toNat]? with
    | none => rw [hm] at hf; cases hf
    | some m =>
      rw [hm] at hf
      simp only [formM, Bool.and_eq_true, decide_eq_true_eq] at hf
      exact hf.2.2.1
  have hlive : live' h.calls = (liveN h.calls : Int) := rfl
  have hle := liveN_le h.calls
  have hch : chain h = (chainO h.calls h.calls.length h.now).getD [] := by
    unfold chain
    rw [chainF_O]
    cases chainO h.calls h.calls.length h.now <;> simp
  rw [Bool.eq_iff_iff]
  constructor
  · intro hw
    obtain ⟨l, h1, h2, h3, h4⟩ := walk_chain h _ h.calls.length h.now hw hle
    rw [h1] at hch
    simp only [Option.getD_some] at hch
    simp only [tailOk, Bool.and_eq_true, Bool.or_eq_true, decide_eq_true_eq]
    refine ⟨?_, by rw [hch, h2, hlive], ?_⟩
    · by_cases h0 : h.now < 0
      · exact .inl h0
      · right
        cases hL : liveN h.calls with
        | zero => rw [hL] at hw; simp only [walkI, decide_eq_true_eq] at hw; omega
        | succ a =>
          rw [hL] at hw
          simp only [walkI, if_neg h0] at hw
          unfold aliveAt
          cases hc : h.calls[h.now.toNat]? with
          | none => rw [hc] at hw; cases hw
          | some c =>
            rw [hc] at hw
            simp only at hw
            cases hd : c.dead with
            | false => simp [hd]
            | true => rw [hd] at hw; simp at hw
    · simp only [waitOk, List.all_eq_true]
      intro x hx
      rw [hch] at hx
      obtain ⟨i, hi⟩ := List.getElem?_of_mem hx
      rw [List.getElem?_drop] at hi
      have hmem := List.mem_of_getElem? hi
      have hwi := h4 (1 + i) x hi
      have hilt := (List.getElem?_eq_some_iff.1 hi).1
      have hne : x ≠ h.now := by
        rintro rfl
        have := walk_uniq _ _ _ _ _ hwi hw
        omega
      obtain ⟨c, hc, h6⟩ := h3 x hmem hne
      simp only [roomAt, hc, decide_eq_true_eq]
      have := hst c (List.mem_of_getElem? hc)
      omega
  · intro ht
    simp only [tailOk, Bool.and_eq_true, Bool.or_eq_true, decide_eq_true_eq] at ht
    obtain ⟨ha, hl, hwt⟩ := ht
    cases hO : chainO h.calls h.calls.length h.now with
    | some l =>
      rw [hO] at hch
      simp only [Option.getD_some] at hch
      have hlen : l.length = liveN h.calls := by rw [hch, hlive] at hl; omega
      rw [← hlen]
      refine chain_walk h h.calls.length h.now l hO (fun x hx hne => ?_)
      simp only [waitOk, List.all_eq_true, hch] at hwt
      have hx1 : x ∈ l.drop 1 := by
        cases l with
        | nil => cases hx
        | cons y ys =>
          rcases List.mem_cons.1 hx with rfl | hx
          · exfalso
            apply hne
            cases hcl : h.calls.length with
            | zero =>
              rw [hcl] at hO; simp only [chainO] at hO; split at hO <;> cases hO
            | succ f =>
              rw [hcl] at hO
              simp only [chainO] at hO
              split at hO
              · cases hO
              · split at hO
                · cases hO
                · split at hO
                  · split at hO
                    · cases hO
                    · simp only [Option.map_eq_some_iff] at hO
                      obtain ⟨_, _, e⟩ := hO
                      injection e with e1 e2
                      exact e1.symm
                  · cases hO
          · exact hx
      have hr := hwt x hx1
      unfold roomAt at hr
      cases hc : h.calls[x.toNat]? with
      | none => rw [hc] at hr; cases hr
      | some c =>
        rw [hc] at hr
        simp only [decide_eq_true_eq] at hr
        exact ⟨c, hc, by omega⟩
    | none =>
      rw [hO] at hch
      simp only [Option.getD_none] at hch
      rw [hch, hlive] at hl
      have hL : liveN h.calls = 0 := by simp at hl; omega
      rw [hL]
      rcases ha with h0 | h0
      · simp only [walkI, decide_eq_true_eq]; exact h0
      · exfalso
        unfold aliveAt at h0
        cases hc : h.calls[h.now.toNat]? with
        | none => rw [hc] at h0; cases h0
        | some c =>
          rw [hc] at h0
          simp only [Bool.not_eq_true'] at h0
          have hmem := List.mem_of_getElem? hc
          have : c ∈ h.calls.filter (fun c => !c.dead) := List.mem_filter.2 ⟨hmem, by simp [h0]⟩
          have hz : h.calls.filter (fun c => !c.dead) = [] := List.length_eq_zero_iff.1 hL
          rw [hz] at this
          cases this
theorem heapOk_eq (p : GProg) (h : GHeap) : heapOkI p h = heapOkS p h := by
  unfold heapOkI heapOkS toldOk
  have hs : h.said.all (fun v => valOk v p.length) = h.said.all (saidOk p) := by congr 1; funext v; exact valOk_said p v
  rw [hs]
  cases h1 : progOk p <;> simp only [Bool.false_and, Bool.true_and]
  cases h2 : inR h.now (-1) (h.calls.length - 1) <;> simp only [Bool.false_and, Bool.true_and]
  have h2' := inR_iff.1 h2
  have hnow : (h.now = -1) ↔ (h.now < 0) := by omega
  have hdec : decide ((h.code = 1) ↔ (h.now = -1)) = decide ((h.code = 1) ↔ (h.now < 0)) := decide_eq_decide.2 (by rw [hnow])
  rw [hdec]
  by_cases h3 : h.calls.all (fun c => formOk p c h.calls.length) = true
  · rw [tail_eq p h (by omega) (List.all_eq_true.1 h3)]
    ac_rfl
  · have h3' : h.calls.all (fun c => formOk p c h.calls.length) = false := by simpa using h3
    rw [h3']
    simp only [Bool.false_and, Bool.and_false]
end Go.Ai
