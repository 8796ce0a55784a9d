/- The specification's HeapOk and HeapNext. -/
import Derived.Test.YtffliemhdjcflaaAiL7
set_option linter.unusedSimpArgs false
set_option linter.unusedVariables false
namespace Go.Ai
variable {mt : Nat → Nat → Option Nat}
attribute [local simp] cnd_ite gS_ite
theorem chainF_mem (calls : List GCall) : ∀ (f : Nat) (at' : Int) (out : List Int), (∀ x ∈ out, 0 ≤ x ∧ x < calls.length) → ∀ x ∈ chainF calls f at' out, 0 ≤ x ∧ x < calls.length := by
  intro f
  induction f with
  | zero =>
    intro at' out ho x hx
    simp only [chainF] at hx
    split at hx
    · exact ho x hx
    · cases hx
  | succ f ih =>
    intro at' out ho x hx
    simp only [chainF] at hx
    split at hx
    · exact ho x hx
    · split at hx
      · cases hx
      · split at hx
        · split at hx
          · cases hx
          · refine ih _ _ (fun y hy => ?_) x hx
            rcases List.mem_append.1 hy with hy | hy
            · exact ho y hy
            · simp at hy; omega
        · cases hx
theorem chain_mem (h : GHeap) : ∀ x ∈ chain h, 0 ≤ x ∧ x < h.calls.length := chainF_mem h.calls _ _ _ (by simp)
theorem chainF_len (calls : List GCall) : ∀ (f : Nat) (at' : Int) (out : List Int), f + out.length ≤ calls.length → (chainF calls f at' out).length ≤ calls.length := by
  intro f
  induction f with
  | zero =>
    intro at' out h
    simp only [chainF]
    split
    · omega
    · simp
  | succ f ih =>
    intro at' out h
    simp only [chainF]
    split
    · omega
    · split
      · simp
      · split
        · split
          · simp
          · exact ih _ _ (by simp; omega)
        · simp
theorem chain_len (h : GHeap) : (chain h).length ≤ h.calls.length := chainF_len h.calls _ _ _ (by simp)
def roomAt (h : GHeap) (x : Int) : Bool := match h.calls[x.toNat]? with | some c => decide (c.stack.length < 6) | none => false
def waitOk (h : GHeap) : Bool := ((chain h).drop 1).all (roomAt h)
theorem al_58 (h : GHeap)  (hl : (chain h).length ≤ 1099511627776) (k : Nat) (S : List KF)
    (hR : ∀ fr m, k ≤ m → fr 2 = .bool false → Gv k (.bool false) (unw AP mt .ret fr ⟨m, noObj⟩ S)) (hE : ∀ fr m, k ≤ m → Gv k (.bool true) (unw AP mt (.exit 0) fr ⟨m, noObj⟩ S)) :
    ∀ (j i n : Nat), i + j = (chain h).length → k ≤ n → Gv k (.bool (((chain h).drop i).all (roomAt h))) (evS AP mt (.loop l_58_0) (upd (upd (upd fr0 4 (vi i)) 3 (lInt (chain h))) 1 (.pbox [lCall h.calls, vi h.now, vi h.born, lVal h.said, vi h.code])) ⟨n, noObj⟩ S) := by
  intro j
  induction j with
  | zero =>
    intro i n hij hn
    rw [S_loop]
    have hc : ¬ ((i : Int) < (chain h).length) := by omega
    have hd : (chain h).drop i = [] := List.drop_eq_nil_iff.2 (by omega)
    simp [u_58_0, b_58_0, hc, hd]
    exact hE _ _ hn
  | succ j ih =>
    intro i n hij hn
    have hlt : i < (chain h).length := by omega
    obtain ⟨m, hm⟩ : ∃ m, (chain h)[i]? = some m := ⟨_, List.getElem?_eq_getElem hlt⟩
    have hmm := List.mem_of_getElem? hm
    have hc : (i : Int) < (chain h).length := by omega
    have hwr : IntKind.i64.wrap ((i : Int) + 1) = (i : Int) + 1 := wrap_id (by omega) (by omega)
    have hix := fun g => idx_ok (g := g) (k := .i64) (w_Int (chain h)) (show (0:Int) ≤ i by omega) (by simpa using hc)
    have hi := fun n' h' => ih (i + 1) n' (by omega) h'
    rw [drop_cons hm, S_loop]
    rw [show ((i + 1 : Nat) : Int) = (i : Int) + 1 from by omega] at hi
    simp only [List.all_cons]
    obtain ⟨hx0, hx1⟩ := chain_mem h m hmm
    obtain ⟨c, hcc⟩ : ∃ c, h.calls[m.toNat]? = some c := ⟨_, List.getElem?_eq_getElem (by omega)⟩
    have hix2 := fun g => idx_ok (g := g) (k := .i64) (w_Call h.calls) (show (0:Int) ≤ m by omega) (by simp; omega)
    by_cases hP : c.stack.length < 6
    · have hP' : ¬ 6 ≤ (c.stack.length : Int) := by omega
      simp [u_58_0, b_58_0, hc, hix, hix2, hm, hwr, hcc, hP', roomAt, hP]
      exact hi _ (by repeat (first | exact hn | apply le_nxt))
    · have hP' : 6 ≤ (c.stack.length : Int) := by omega
      simp [u_58_0, b_58_0, hc, hix, hix2, hm, hwr, hcc, hP', roomAt, hP]
      exact hR _ _ (by repeat (first | exact hn | apply le_nxt)) (by simp)

theorem r_58 (h : GHeap) (hl : h.calls.length ≤ 1048576) : Q mt 58 [aHeap h] (.bool (waitOk h)) := by
  have q := r_40 (mt := mt) h hl
  unfold Q at q
  refine Q.of rfl (fun k => ?_)
  rw [run_evS AP_58 _ _ rfl]
  simp [c_58, q]
  unfold waitOk
  have hcl := chain_len h
  by_cases h1 : 1 ≤ (chain h).length
  · refine al_58 (mt := mt) h (by omega) k _ (fun fr m hm h => ?_) (fun fr m hm => ?_) ((chain h).length - 1) 1 _ (by omega) (by repeat (first | exact Nat.le_refl _ | apply le_nxt))
    · simp [h]; exact Gv.bool hm rfl
    · simp; exact Gv.bool hm rfl
  · have h0 : chain h = [] := List.length_eq_zero_iff.1 (by omega)
    rw [S_loop]
    simp [u_58_0, b_58_0, h0]
    exact Gv.bool (by repeat (first | exact Nat.le_refl _ | apply le_nxt)) rfl
def live' (l : List GCall) : Int := ((l.filter (fun c => !c.dead)).length : Int)
theorem al_25 (p : GProg) (h : GHeap) (hp : ShP p) (hh : ShH h) (k : Nat) (S : List KF) (vF : AVal) (vE : Int → AVal)
    (hR : ∀ fr m, k ≤ m → fr 4 = .bool false → Gv k vF (unw AP mt .ret fr ⟨m, noObj⟩ S))
    (hE : ∀ lv fr m, k ≤ m → fr 2 = .pbox [lMethod p] → fr 3 = .pbox [lCall h.calls, vi h.now, vi h.born, lVal h.said, vi h.code] → fr 6 = vi lv → Gv k (vE lv) (unw AP mt (.exit 0) fr ⟨m, noObj⟩ S)) :
    ∀ (j i n : Nat) (lv : Int), i + j = h.calls.length → k ≤ n → 0 ≤ lv ∧ lv ≤ i →
      Gv k (if (h.calls.drop i).all (fun c => formOk p c h.calls.length) = true then vE (lv + live' (h.calls.drop i)) else vF)
        (evS AP mt (.loop l_25_0) (upd (upd (upd (upd (upd fr0 7 (vi i)) 6 (vi lv)) 5 (vi h.calls.length)) 3 (.pbox [lCall h.calls, vi h.now, vi h.born, lVal h.said, vi h.code])) 2 (.pbox [lMethod p])) ⟨n, noObj⟩ S) := by
  have hhl := hh.l
  intro j
  induction j with
  | zero =>
    intro i n lv hij hn hlv
    rw [S_loop]
    have hc : ¬ ((i : Int) < h.calls.length) := by omega
    have hd : h.calls.drop i = [] := List.drop_eq_nil_iff.2 (by omega)
    simp [u_25_0, b_25_0, hc, hd, live']
    exact hE _ _ _ hn (by simp) (by simp) (by simp)
  | succ j ih =>
    intro i n lv hij hn hlv
    have hlt : i < h.calls.length := by omega
    obtain ⟨m, hm⟩ : ∃ m, h.calls[i]? = some m := ⟨_, List.getElem?_eq_getElem hlt⟩
    have hmm := List.mem_of_getElem? hm
    have hc : (i : Int) < h.calls.length := by omega
    have hwr : IntKind.i64.wrap ((i : Int) + 1) = (i : Int) + 1 := wrap_id (by omega) (by omega)
    have hwl : IntKind.i64.wrap (lv + 1) = lv + 1 := wrap_id (by omega) (by omega)
    have hix := fun g => idx_ok (g := g) (k := .i64) (w_Call h.calls) (show (0:Int) ≤ i by omega) (by simpa using hc)
    have q := r_57 (mt := mt) p m h.calls.length hp ⟨by omega, by omega⟩ (hh.c m hmm)
    unfold Q at q
    have hi := fun n' lv' h' h'' => ih (i + 1) n' lv' (by omega) h' h''
    rw [show ((i + 1 : Nat) : Int) = (i : Int) + 1 from by omega] at hi
    rw [drop_cons hm, S_loop]
    simp only [List.all_cons]
    rcases Bool.eq_false_or_eq_true (formOk p m h.calls.length) with hP | hP
    rotate_left
    · simp [u_25_0, b_25_0, hc, hix, hm, hwr, q, hP]
      exact hR _ _ (by repeat (first | exact hn | apply le_nxt)) (by simp)
    · rcases Bool.eq_false_or_eq_true m.dead with hd | hd
      rotate_left
      · have hv : live' (m :: h.calls.drop (i + 1)) = 1 + live' (h.calls.drop (i + 1)) := by simp [live', hd]; omega
        have hz := hi (nxt AP mt 57 [aProg p, aCall m, vi h.calls.length] n) (lv + 1) (le_nxt hn) (by omega)
        rw [show lv + 1 + live' (h.calls.drop (i + 1)) = lv + live' (m :: h.calls.drop (i + 1)) from by omega] at hz
        have q' := q
        simp only [aCall, hd] at q'
        simp [u_25_0, b_25_0, hc, hix, hm, hwr, hwl, q', hP, hd]
        simp only [aCall, hd] at hz
        simpa using hz
      · have hv : live' (m :: h.calls.drop (i + 1)) = live' (h.calls.drop (i + 1)) := by simp [live', hd]
        have hz := hi (nxt AP mt 57 [aProg p, aCall m, vi h.calls.length] n) lv (le_nxt hn) (by omega)
        rw [← hv] at hz
        have q' := q
        simp only [aCall, hd] at q'
        simp [u_25_0, b_25_0, hc, hix, hm, hwr, hwl, q', hP, hd]
        simp only [aCall, hd] at hz
        simpa using hz
end Go.Ai
