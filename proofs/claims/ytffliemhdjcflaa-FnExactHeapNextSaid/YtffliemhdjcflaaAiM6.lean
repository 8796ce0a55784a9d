/- The program's HeapOk and HeapNext. -/
import Derived.Test.YtffliemhdjcflaaAiM5
set_option linter.unusedSimpArgs false
set_option linter.unusedVariables false
namespace Go.Ai
variable {mt : Nat → Nat → Option Nat}
attribute [local simp] cnd_ite gS_ite
def liveN (l : List GCall) : Nat := (l.filter (fun c => !c.dead)).length
theorem ml_35 (p : GProg) (h : GHeap) (hp : ShP p) (hh : ShH h) (k : Nat) (S : List KF) (vF : AVal) (vE : Int → AVal)
    (hR : ∀ fr m, k ≤ m → fr 4 = .bool false → Gv k vF (unw AP mt .ret fr ⟨m, noObj⟩ S))
    (hE : (∀ c ∈ h.calls, formOk p c h.calls.length = true) → ∀ (lv : Int) fr m, 0 ≤ lv ∧ lv ≤ h.calls.length → k ≤ m → fr 3 = .pbox [lCall h.calls, vi h.now, vi h.born, lVal h.said, vi h.code] → fr 5 = vi lv → Gv k (vE lv) (unw AP mt (.exit 0) fr ⟨m, noObj⟩ S)) :
    ∀ (j i n : Nat) (lv : Int), i + j = h.calls.length → k ≤ n → 0 ≤ lv ∧ lv ≤ i → (∀ t c, t < i → h.calls[t]? = some c → formOk p c h.calls.length = true) →
      Gv k (if (h.calls.drop i).all (fun c => formOk p c h.calls.length) = true then vE (lv + live' (h.calls.drop i)) else vF)
        (evS AP mt (.loop l_35_0) (upd (upd (upd (upd (upd (upd fr0 48 (vi i)) 47 (vi h.calls.length)) 46 (lCall h.calls)) 5 (vi lv)) 3 (.pbox [lCall h.calls, vi h.now, vi h.born, lVal h.said, vi h.code])) 2 (.pbox [lMethod p])) ⟨n, noObj⟩ S) := by
  have hhl := hh.l
  intro j
  induction j with
  | zero =>
    intro i n lv hij hn hlv hpre
    rw [S_loop]
    have hc : ¬ ((i : Int) < h.calls.length) := by omega
    have hd : h.calls.drop i = [] := List.drop_eq_nil_iff.2 (by omega)
    simp [u_35_0, b_35_0, hc, hd, live']
    have hall : ∀ c ∈ h.calls, formOk p c h.calls.length = true := fun c hc => by
      obtain ⟨t, ht⟩ := List.getElem?_of_mem hc
      exact hpre t c (by have := (List.getElem?_eq_some_iff.1 ht).1; omega) ht
    exact hE hall lv _ _ ⟨hlv.1, by omega⟩ hn (by simp) (by simp)
  | succ j ih =>
    intro i n lv hij hn hlv hpre
    have hlt : i < h.calls.length := by omega
    obtain ⟨m, hm⟩ : ∃ m, h.calls[i]? = some m := ⟨_, List.getElem?_eq_getElem hlt⟩
    have hmm := List.mem_of_getElem? hm
    have hc : (i : Int) < h.calls.length := by omega
    have hwr : IntKind.i64.wrap ((i : Int) + 1) = (i : Int) + 1 := wrap_id (by omega) (by omega)
    have hwl : IntKind.i64.wrap (lv + 1) = lv + 1 := wrap_id (by omega) (by omega)
    have hix := fun g => idx_ok (g := g) (k := .i64) (w_Call h.calls) (show (0:Int) ≤ i by omega) (by simpa using hc)
    have q := m_68 (mt := mt) p m h.calls.length hp ⟨by omega, by omega⟩ (hh.c m hmm)
    unfold Q at q
    rw [drop_cons hm, S_loop]
    simp only [List.all_cons]
    rcases Bool.eq_false_or_eq_true (formOk p m h.calls.length) with hP | hP
    rotate_left
    · simp [u_35_0, b_35_0, hc, hix, hm, hwr, q, hP]
      exact hR _ _ (by repeat (first | exact hn | apply le_nxt)) (by simp)
    · have hi := fun n' lv' h' h'' => ih (i + 1) n' lv' (by omega) h' h'' (fun t c ht hct => by
        by_cases e : t = i
        · subst e; rw [hm] at hct; injection hct with hct; subst hct; exact hP
        · exact hpre t c (by omega) hct)
      rw [show ((i + 1 : Nat) : Int) = (i : Int) + 1 from by omega] at hi
      rcases Bool.eq_false_or_eq_true m.dead with hd | hd
      rotate_left
      · have hv : live' (m :: h.calls.drop (i + 1)) = 1 + live' (h.calls.drop (i + 1)) := by simp [live', hd]; omega
        have hz := hi (nxt AP mt 68 [aCall m, aProg p, vi h.calls.length] n) (lv + 1) (le_nxt hn) (by omega)
        rw [show lv + 1 + live' (h.calls.drop (i + 1)) = lv + live' (m :: h.calls.drop (i + 1)) from by omega] at hz
        have q' := q
        simp only [aCall, hd] at q'
        simp [u_35_0, b_35_0, hc, hix, hm, hwr, hwl, q', hP, hd]
        simp only [aCall, hd] at hz
        simpa using hz
      · have hv : live' (m :: h.calls.drop (i + 1)) = live' (h.calls.drop (i + 1)) := by simp [live', hd]
        have hz := hi (nxt AP mt 68 [aCall m, aProg p, vi h.calls.length] n) lv (le_nxt hn) (by omega)
        rw [← hv] at hz
        have q' := q
        simp only [aCall, hd] at q'
        simp [u_35_0, b_35_0, hc, hix, hm, hwr, hwl, q', hP, hd]
        simp only [aCall, hd] at hz
        simpa using hz
/-- The walk from a call on: so many are alive. -/
def walkI (calls : List GCall) (now : Int) : Nat → Int → Bool
  | 0, at' => decide (at' < 0)
  | a + 1, at' => if at' < 0 then false else match calls[at'.toNat]? with
    | some c => if c.dead then false else if at' ≠ now ∧ c.stack.length = 6 then false else walkI calls now a c.sender
    | none => false
theorem ml2_35 (h : GHeap) (hh : ShH h) (hs : ∀ c ∈ h.calls, -1 ≤ c.sender ∧ c.sender < h.calls.length) (k : Nat) (S : List KF)
    (hR : ∀ fr m, k ≤ m → fr 4 = .bool false → Gv k (.bool false) (unw AP mt .ret fr ⟨m, noObj⟩ S))
    (hE : ∀ fr m lv, k ≤ m → fr 5 = vi lv → Gv k (.bool (decide (lv = 0))) (unw AP mt (.exit 2) fr ⟨m, noObj⟩ S)) :
    ∀ (a n : Nat) (at' : Int), a ≤ 1048576 → k ≤ n → -1 ≤ at' ∧ at' < h.calls.length →
      Gv k (.bool (walkI h.calls h.now a at')) (evS AP mt (.loop l_35_1) (upd (upd (upd fr0 8 (vi at')) 5 (vi a)) 3 (.pbox [lCall h.calls, vi h.now, vi h.born, lVal h.said, vi h.code])) ⟨n, noObj⟩ S) := by
  intro a
  induction a with
  | zero =>
    intro n at' ha hn hat
    rw [S_loop]
    by_cases h0 : at' < 0
    · have h0' : ¬ 0 ≤ at' := by omega
      simp [u_35_1, b_35_1, h0, h0', walkI]
      simpa using hE (upd (upd (upd (upd fr0 68 (.bool false)) 8 (vi at')) 5 (vi 0)) 3 (.pbox [lCall h.calls, vi h.now, vi h.born, lVal h.said, vi h.code])) n 0 hn (by simp)
    · have h0' : 0 ≤ at' := by omega
      obtain ⟨c, hcc⟩ : ∃ c, h.calls[at'.toNat]? = some c := ⟨_, List.getElem?_eq_getElem (by omega)⟩
      have hix := fun g => idx_ok (g := g) (k := .i64) (w_Call h.calls) h0' (by simp; omega)
      have hw : IntKind.i64.wrap (-1) = -1 := wrap_id (by omega) (by omega)
      simp [u_35_1, b_35_1, h0, h0', walkI, hix, hcc, hw]
      exact hR _ _ (by repeat (first | exact hn | apply le_nxt)) (by simp)
  | succ a ih =>
    intro n at' ha hn hat
    rw [S_loop]
    have hw : IntKind.i64.wrap (((a + 1 : Nat) : Int) - 1) = (a : Int) := by rw [show ((a + 1 : Nat) : Int) - 1 = (a : Int) from by omega]; exact wrap_id (by omega) (by omega)
    have hw' : IntKind.i64.wrap (a : Int) = (a : Int) := wrap_id (by omega) (by omega)
    have ha0 : ¬ ((a : Int) < 0) := by omega
    by_cases h0 : at' < 0
    · have h0' : ¬ 0 ≤ at' := by omega
      have hz := hE (upd (upd (upd (upd fr0 68 (.bool false)) 8 (vi at')) 5 (vi ((a : Int) + 1))) 3 (.pbox [lCall h.calls, vi h.now, vi h.born, lVal h.said, vi h.code])) n ((a : Int) + 1) hn (by simp)
      have hne : ¬ ((a : Int) + 1 = 0) := by omega
      simp only [hne, decide_false] at hz
      simp [u_35_1, b_35_1, h0, h0', walkI]
      exact hz
    have h0' : 0 ≤ at' := by omega
    obtain ⟨c, hcc⟩ : ∃ c, h.calls[at'.toNat]? = some c := ⟨_, List.getElem?_eq_getElem (by omega)⟩
    have hix := fun g => idx_ok (g := g) (k := .i64) (w_Call h.calls) h0' (by simp; omega)
    have hsc := hs c (List.mem_of_getElem? hcc)
    cases hd : c.dead
    rotate_left
    · simp [u_35_1, b_35_1, h0, h0', walkI, hix, hcc, hw, hw', ha0, hd]
      exact hR _ _ (by repeat (first | exact hn | apply le_nxt)) (by simp)
    have hi := ih n c.sender (by omega) hn hsc
    by_cases h1 : at' = h.now
    · have h1' : (at' = h.now) = True := eq_true h1
      simp [u_35_1, b_35_1, h0, h0', walkI, hix, hcc, hw, hw', ha0, hd, h1']
      exact hi
    by_cases h2 : c.stack.length = 6
    · have h2' : ((c.stack.length : Int) = 6) = True := eq_true (by omega)
      simp [u_35_1, b_35_1, h0, h0', walkI, hix, hcc, hw, hw', ha0, hd, h1, h2, h2']
      exact hR _ _ (by repeat (first | exact hn | apply le_nxt)) (by simp)
    · have h2' : ¬ ((c.stack.length : Int) = 6) := by omega
      simp [u_35_1, b_35_1, h0, h0', walkI, hix, hcc, hw, hw', ha0, hd, h1, h2, h2']
      exact hi
end Go.Ai
