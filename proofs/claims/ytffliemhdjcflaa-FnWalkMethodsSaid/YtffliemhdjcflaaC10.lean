/- The specification's HeapNext. The program's HeapNext; the law. The methods of the calls that wait: the specification's and the program's. -/
import Derived.Test.YtffliemhdjcflaaB6
import Derived.Test.YtffliemhdjcflaaB8
import Derived.Test.YtffliemhdjcflaaB10
set_option linter.unusedSimpArgs false
set_option linter.unusedVariables false
namespace Go.Ai
variable {mt : Nat → Nat → Option Nat}
attribute [local simp] cnd_ite gS_ite
/-- What a heap that is ok and runs has. -/
structure Runs (p : GProg) (h : GHeap) (c : GCall) (m : GMethod) : Prop where
  hc : h.calls[h.now.toNat]? = some c
  h0 : 0 ≤ h.now
  h1 : h.now < h.calls.length
  hm : p[c.method.toNat]? = some m
  m0 : 0 ≤ c.method
  m1 : c.method < p.length
  pc0 : 0 ≤ c.pc
  pc1 : c.pc ≤ m.ops.length
end Go.Ai
set_option linter.unusedSimpArgs false
set_option linter.unusedVariables false
namespace Go.Ai
variable {mt : Nat → Nat → Option Nat}
attribute [local simp] cnd_ite gS_ite
end Go.Ai
set_option linter.unusedSimpArgs false
set_option linter.unusedVariables false
namespace Go.Ai
variable {mt : Nat → Nat → Option Nat}
attribute [local simp] cnd_ite gS_ite
def methOf (calls : List GCall) (x : Int) : Int := (calls[x.toNat]?.map (·.method)).getD 0
def methodsS (p : GProg) (h : GHeap) : List Int := if heapOkS p h = true then (chain h).map (methOf h.calls) else []
theorem r_13 (p : GProg) (h : GHeap) (hp : ShP p) (hh : ShH h) (k : Nat) : OutI k (methodsS p h) (run AP mt 13 [aProg p, aHeap h] ⟨k, noObj⟩) := by
  have q := r_25 (mt := mt) p h hp hh
  have qc := r_40 (mt := mt) h hh.l
  have hhl := hh.l
  have hcl := chain_len h
  unfold Q at q qc
  rw [run_evS AP_13 _ _ rfl]
  unfold methodsS
  cases h1 : heapOkS p h
  · simp [c_13, q, h1]
    exact ⟨.nils, _, noObj, rfl, le_nxt (Nat.le_refl _), .inl ⟨rfl, rfl, rfl⟩⟩
  · simp [c_13, q, qc, h1]
    refine loop_for (OutI k ((chain h).map (methOf h.calls))) (chain h).length (fun i (v : AVal) => upd (upd (upd (upd fr0 7 (vi i)) 6 (lInt (chain h))) 5 v) 3 (.pbox [lCall h.calls, vi h.now, vi h.born, lVal h.said, vi h.code]))
      (fun i v G => k ≤ G.next ∧ RepI k G.next (((chain h).take i).map (methOf h.calls)) v G.obj) (fun _ _ _ => u_13_0) ?_ ?_ (chain h).length 0 .nils ⟨nxt AP mt 40 [aHeap h] (nxt AP mt 25 [aProg p, aHeap h] k), noObj⟩ (by omega) ⟨le_nxt (le_nxt (Nat.le_refl _)), .inl ⟨by simp, rfl, rfl⟩⟩
    · rintro v ⟨m, g⟩ ⟨hm, hr⟩
      have ht : (chain h).take (chain h).length = chain h := List.take_length
      rw [ht] at hr
      obtain ⟨k1, k2, k3, k4, k5, k6⟩ := hr.vals
      simp [-lenV, lenV_list, b_13_0, k1, k2, k3, k4]
      exact ⟨v, m, g, rfl, hm, hr⟩
    · rintro i v ⟨m, g⟩ hi ⟨hm, hr⟩ next
      dsimp only at hm hr
      have hc : (i : Int) < (chain h).length := by omega
      have hwr : IntKind.i64.wrap ((i : Int) + 1) = (i : Int) + 1 := wrap_id (by omega) (by omega)
      obtain ⟨x, hx⟩ : ∃ x, (chain h)[i]? = some x := ⟨_, List.getElem?_eq_getElem hi⟩
      obtain ⟨hx0, hx1⟩ := chain_mem h x (List.mem_of_getElem? hx)
      obtain ⟨c, hcc⟩ : ∃ c, h.calls[x.toNat]? = some c := ⟨_, List.getElem?_eq_getElem (by omega)⟩
      have hix := fun g => idx_ok (g := g) (k := .i64) (w_Int (chain h)) (show (0:Int) ≤ i by omega) (by simpa using hc)
      have hix2 := fun g => idx_ok (g := g) (k := .i64) (w_Call h.calls) (show (0:Int) ≤ x by omega) (by simp; omega)
      obtain ⟨k1, k2, k3, k4, k5, k6⟩ := hr.vals
      obtain ⟨v', g', h2, h3⟩ := hr.app hm c.method (by simp; omega)
      obtain ⟨j1, j2, j3, j4, j5, j6⟩ := h3.vals
      have hm1 : methOf h.calls x = c.method := by simp [methOf, hcc]
      have ht : ((chain h).take (i + 1)).map (methOf h.calls) = ((chain h).take i).map (methOf h.calls) ++ [c.method] := by rw [List.take_add_one, hx]; simp [hm1]
      simp [-lenV, lenV_list, b_13_0, k1, k2, k3, k4, hc, hwr, hx, hix, hix2, hcc, h2, j1, j2, j3, j4]
      simpa using next v' ⟨m + 1, g'⟩ ⟨by show k ≤ m + 1; omega, by rw [ht]; exact h3⟩
theorem ml_14 (h : GHeap) (hhl : h.calls.length ≤ 2097152) (k : Nat) (S : List KF) (outF : List Int) (hE : ∀ fr m g v, k ≤ m → RepI k m outF v g → fr 5 = v → OutI k outF (unw AP mt (.exit 0) fr ⟨m, g⟩ S)) :
    ∀ (f : Nat) (at' : Int) (out l : List Int) (v : AVal) (g : Heap') (n : Nat), chainO h.calls f at' = some l → f + out.length = h.calls.length → k ≤ n → RepI k n out v g → outF = out ++ l.map (methOf h.calls) →
      OutI k outF (evS AP mt (.loop l_14_0) (upd (upd (upd fr0 6 (vi at')) 5 v) 3 (.pbox [lCall h.calls, vi h.now, vi h.born, lVal h.said, vi h.code])) ⟨n, g⟩ S) := by
  intro f
  induction f with
  | zero =>
    intro at' out l v g n hO hf hn hr ho
    obtain ⟨k1, k2, k3, k4, k5, k6⟩ := hr.vals
    simp only [chainO] at hO
    split at hO
    · rename_i h0
      injection hO with hO
      subst hO
      have h0' : ¬ 0 ≤ at' := by omega
      rw [S_loop]
      simp [u_14_0, b_14_0, h0', k1, k2, k3]
      exact hE _ _ _ v hn (by rw [ho]; simpa using hr) (by simp)
    · cases hO
  | succ f ih =>
    intro at' out l v g n hO hf hn hr ho
    obtain ⟨k1, k2, k3, k4, k5, k6⟩ := hr.vals
    simp only [chainO] at hO
    split at hO
    · rename_i h0
      injection hO with hO
      subst hO
      have h0' : ¬ 0 ≤ at' := by omega
      rw [S_loop]
      simp [u_14_0, b_14_0, h0', k1, k2, k3]
      exact hE _ _ _ v hn (by rw [ho]; simpa using hr) (by simp)
    · rename_i h0
      split at hO
      · cases hO
      · rename_i h1
        split at hO
        · rename_i c hcc
          split at hO
          · cases hO
          · simp only [Option.map_eq_some_iff] at hO
            obtain ⟨l', hl', rfl⟩ := hO
            have h0' : 0 ≤ at' := by omega
            have hix := fun g => idx_ok (g := g) (k := .i64) (w_Call h.calls) h0' (by simp; omega)
            obtain ⟨v', g', h2, h3⟩ := hr.app hn c.method (by omega)
            obtain ⟨j1, j2, j3, j4, j5, j6⟩ := h3.vals
            have hm1 : methOf h.calls at' = c.method := by simp [methOf, hcc]
            have hi := ih c.sender (out ++ [c.method]) l' v' g' (n + 1) hl' (by simp; omega) (by omega) h3 (by rw [ho]; simp [hm1])
            rw [S_loop]
            simp [u_14_0, b_14_0, h0', k1, k2, k3, hix, hcc, h2, j1, j2, j3]
            exact hi
        · cases hO
theorem m_14 (p : GProg) (h : GHeap) (hp : ShP p) (hh : ShH h) (k : Nat) : OutI k (methodsS p h) (run AP mt 14 [aProg p, aHeap h] ⟨k, noObj⟩) := by
  have q := m_35 (mt := mt) p h hp hh
  rw [heapOk_eq] at q
  unfold Q at q
  rw [run_evS AP_14 _ _ rfl]
  unfold methodsS
  cases h1 : heapOkS p h
  · simp [c_14, q, h1]
    exact ⟨.nils, _, noObj, rfl, le_nxt (Nat.le_refl _), .inl ⟨rfl, rfl, rfl⟩⟩
  · simp [c_14, q, h1]
    refine ml_14 (mt := mt) h hh.l k _ _ (fun fr m g v hm hr h5 => ?_) h.calls.length h.now [] (chain h) .nils noObj _ (chain_some h1) (by simp) (le_nxt (Nat.le_refl _)) (.inl ⟨rfl, rfl, rfl⟩) (by simp)
    obtain ⟨k1, k2, k3, k4, k5, k6⟩ := hr.vals
    simp [h5, k1, k2, k3]
    exact ⟨v, m, g, rfl, hm, hr⟩
end Go.Ai
