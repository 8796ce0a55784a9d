/- The methods of the calls that wait: the specification's and the program's. The law FnExactHeapMethods, as a run of the lowered program. -/
import Derived.Test.YtffliemhdjcflaaB8
import Derived.Test.YtffliemhdjcflaaB9
set_option linter.unusedSimpArgs false
set_option linter.unusedVariables false
namespace Go.Ai
variable {mt : Nat → Nat → Option Nat}
attribute [local simp] cnd_ite gS_ite
/-- A list of numbers that grows, an object of its own. -/
def RepI (k m : Nat) (out : List Int) (v : AVal) (g : Heap') : Prop := (out = [] ∧ v = .nils ∧ g = noObj) ∨ (out ≠ [] ∧ ∃ id, k ≤ id ∧ id < m ∧ v = .slice id 0 out.length ∧ g = updO noObj id (some (out.map i1)))
theorem RepI.app {k n : Nat} {out : List Int} {v : AVal} {g : Heap'} (h : RepI k n out v g) (hk : k ≤ n) (x : Int) (hl : out.length ≤ 1048576) : ∃ v' g', appV 1 8 v (.list [[vi x]]) ⟨n, g⟩ = some (v', ⟨n + 1, g'⟩) ∧ RepI k (n + 1) (out ++ [x]) v' g' := by
  rcases h with ⟨rfl, rfl, rfl⟩ | ⟨hne, id, h1, h2, rfl, rfl⟩
  · refine ⟨.slice n 0 1, updO noObj n (some [[vi x]]), ?_, .inr ⟨by simp, n, hk, Nat.lt_succ_self _, by simp, by simp⟩⟩
    simp [appV, srcOf, maxA]
  · refine ⟨.slice n 0 (out.length + 1), updO noObj n (some (out.map i1 ++ [[vi x]])), ?_, .inr ⟨by simp, n, hk, Nat.lt_succ_self _, by simp, by simp⟩⟩
    have he : (updO noObj id (some (out.map i1))) id = some (out.map i1) := by simp [updO]
    have hu : updO (updO (updO noObj id (some (out.map i1))) id none) n (some (out.map i1 ++ [[vi x]])) = updO noObj n (some (out.map i1 ++ [[vi x]])) := by
      funext t
      simp only [updO]
      split
      · rfl
      · split
        · rfl
        · rfl
    have hm : out.map i1 ≠ [] := by simp [hne]
    have hc : ∀ e ∈ out.map i1, e.length = 1 := by simp
    have hb : (out.length + 1) * 8 ≤ 1099511627776 := by omega
    simp [appV, srcOf, he, hu, hne, maxA, hb]
theorem RepI.vals {k m : Nat} {out : List Int} {v : AVal} {g : Heap'} (h : RepI k m out v g) : kv v = v ∧ gv v = some v ∧ (∀ d, pv d v = v) ∧ lenV v = some (vi out.length) ∧ cellsOf v = some [v] ∧ noImm v = true := by
  rcases h with ⟨rfl, rfl, rfl⟩ | ⟨_, id, _, _, rfl, rfl⟩
  · exact ⟨rfl, rfl, fun _ => rfl, rfl, rfl, rfl⟩
  · exact ⟨rfl, rfl, fun _ => rfl, rfl, rfl, rfl⟩
theorem RepI.noImmO {k m : Nat} {out : List Int} {v : AVal} {g : Heap'} (h : RepI k m out v g) : noImmO g := by
  intro id es he e hm c hc
  rcases h with ⟨rfl, rfl, rfl⟩ | ⟨_, id', _, _, rfl, rfl⟩
  · cases he
  · simp only [updO] at he
    split at he
    · injection he with he; subst he
      obtain ⟨n, _, rfl⟩ := List.mem_map.1 hm
      simp at hc; subst hc; rfl
    · cases he
theorem RepI.mono {k m m' : Nat} {out : List Int} {v : AVal} {g : Heap'} (h : RepI k m out v g) (hm : m ≤ m') : RepI k m' out v g := by
  rcases h with h | ⟨h0, id, h1, h2, h3⟩
  · exact .inl h
  · exact .inr ⟨h0, id, h1, by omega, h3⟩
theorem RepI.rep {k m : Nat} {out : List Int} {v : AVal} {g : Heap'} (h : RepI k m out v g) : Rep out v g := by
  rcases h with h | ⟨h0, id, h1, h2, h3, h4⟩
  · exact .inl h
  · exact .inr ⟨h0, id, h3, h4⟩
theorem RepI.own {k m : Nat} {out : List Int} {v : AVal} {g : Heap'} (h : RepI k m out v g) (p : List Nat) : ∃ ow, Own g ow p (lInt out) v ∧ (∀ id q, ow id = some q → k ≤ id ∧ id < m ∧ p <+: q) ∧ ∀ id, id < k → g id = none := by
  rcases h with ⟨rfl, rfl, rfl⟩ | ⟨hne, id, h1, h2, rfl, rfl⟩
  · exact ⟨fun _ => none, .nil _, fun _ _ h => (by cases h), fun _ _ => rfl⟩
  · refine ⟨fun t => if t = id then some p else none, Own.mkFlat (fun e he x hx => ?_) (by simp [hne]) (by simp) (by simp) (by simp [updO]), fun j q hj => ?_, fun j hj => ?_⟩
    · obtain ⟨n, _, rfl⟩ := List.mem_map.1 he
      simp at hx; subst hx; rfl
    · dsimp only at hj
      split at hj
      · rename_i e; subst e; injection hj with hj; subst hj; exact ⟨h1, h2, List.prefix_refl _⟩
      · cases hj
    · simp only [updO]; rw [if_neg (by omega)]; rfl
/-- Numbers that are answered owned. -/
def OutI (k : Nat) (out : List Int) (x : R) : Prop := ∃ v m g, x = some (v, ⟨m, g⟩) ∧ k ≤ m ∧ RepI k m out v g
theorem OutI.gv {k : Nat} {out : List Int} {x : R} (h : OutI k out x) : Gv k (lInt out) x := by
  obtain ⟨v, m, g, h1, h2, h3⟩ := h
  exact ⟨v, m, g, h1, h2, frz_rep h3.rep⟩
/-- Called with what is looked at, answered owned. -/
theorem i_snap {f : Nat} {as as' : List AVal} {out : List Int} {G : AG} (ha : frzs G.obj as = some as') (h : ∀ k, OutI k out (run AP mt f as' ⟨k, noObj⟩)) :
    ∃ v m g, callBy (run AP mt) (.alone true false) f as G = some (v, ⟨m, ovr G.obj g⟩) ∧ G.next ≤ m ∧ RepI G.next m out v g := by
  obtain ⟨v, m, g, h1, h2, h3⟩ := h G.next
  refine ⟨v, m, g, ?_, h2, h3⟩
  unfold callBy
  have h4 := h3.vals.2.2.2.2.2
  have h5 := h3.noImmO
  simp [ha, h1, h2, h4, h5]

def methOf (calls : List GCall) (x : Int) : Int := (calls[x.toNat]?.map (·.method)).getD 0
def methodsS (p : GProg) (h : GHeap) : List Int := if heapOkS p h = true then (chain h).map (methOf h.calls) else []
theorem r_13 (p : GProg) (h : GHeap) (hp : ShP p) (hh : ShH h) (k : Nat) : OutI k (methodsS p h) (run AP mt 13 [aProg p, aHeap h] ⟨k, noObj⟩) := by
  have q := r_25 (mt := mt) p h hp hh
  have qc := r_40 (mt := mt) h hh.l
  have hhl := hh.l
  have hcl := chain_len h
  unfold Q at q qc
  rw [run_evS AP_13 _ _ rfl]
  unfold methodsS
  cases h1 : heapOkS p h
  · simp [c_13, q, h1]
    exact ⟨.nils, _, noObj, rfl, le_nxt (Nat.le_refl _), .inl ⟨rfl, rfl, rfl⟩⟩
  · simp [c_13, q, qc, h1]
    refine loop_for (OutI k ((chain h).map (methOf h.calls))) (chain h).length (fun i (v : AVal) => upd (upd (upd (upd fr0 7 (vi i)) 6 (lInt (chain h))) 5 v) 3 (.pbox [lCall h.calls, vi h.now, vi h.born, lVal h.said, vi h.code]))
      (fun i v G => k ≤ G.next ∧ RepI k G.next (((chain h).take i).map (methOf h.calls)) v G.obj) (fun _ _ _ => u_13_0) ?_ ?_ (chain h).length 0 .nils ⟨nxt AP mt 40 [aHeap h] (nxt AP mt 25 [aProg p, aHeap h] k), noObj⟩ (by omega) ⟨le_nxt (le_nxt (Nat.le_refl _)), .inl ⟨by simp, rfl, rfl⟩⟩
    · rintro v ⟨m, g⟩ ⟨hm, hr⟩
      have ht : (chain h).take (chain h).length = chain h := List.take_length
      rw [ht] at hr
      obtain ⟨k1, k2, k3, k4, k5, k6⟩ := hr.vals
      simp [-lenV, lenV_list, b_13_0, k1, k2, k3, k4]
      exact ⟨v, m, g, rfl, hm, hr⟩
    · rintro i v ⟨m, g⟩ hi ⟨hm, hr⟩ next
      dsimp only at hm hr
      have hc : (i : Int) < (chain h).length := by omega
      have hwr : IntKind.i64.wrap ((i : Int) + 1) = (i : Int) + 1 := wrap_id (by omega) (by omega)
      obtain ⟨x, hx⟩ : ∃ x, (chain h)[i]? = some x := ⟨_, List.getElem?_eq_getElem hi⟩
      obtain ⟨hx0, hx1⟩ := chain_mem h x (List.mem_of_getElem? hx)
      obtain ⟨c, hcc⟩ : ∃ c, h.calls[x.toNat]? = some c := ⟨_, List.getElem?_eq_getElem (by omega)⟩
      have hix := fun g => idx_ok (g := g) (k := .i64) (w_Int (chain h)) (show (0:Int) ≤ i by omega) (by simpa using hc)
      have hix2 := fun g => idx_ok (g := g) (k := .i64) (w_Call h.calls) (show (0:Int) ≤ x by omega) (by simp; omega)
      obtain ⟨k1, k2, k3, k4, k5, k6⟩ := hr.vals
      obtain ⟨v', g', h2, h3⟩ := hr.app hm c.method (by simp; omega)
      obtain ⟨j1, j2, j3, j4, j5, j6⟩ := h3.vals
      have hm1 : methOf h.calls x = c.method := by simp [methOf, hcc]
      have ht : ((chain h).take (i + 1)).map (methOf h.calls) = ((chain h).take i).map (methOf h.calls) ++ [c.method] := by rw [List.take_add_one, hx]; simp [hm1]
      simp [-lenV, lenV_list, b_13_0, k1, k2, k3, k4, hc, hwr, hx, hix, hix2, hcc, h2, j1, j2, j3, j4]
      simpa using next v' ⟨m + 1, g'⟩ ⟨by show k ≤ m + 1; omega, by rw [ht]; exact h3⟩
theorem chain_some {p : GProg} {h : GHeap} (hok : heapOkS p h = true) : chainO h.calls h.calls.length h.now = some (chain h) := by
  simp only [heapOkS, Bool.and_eq_true, decide_eq_true_eq, inR_iff, List.all_eq_true, tailOk, Bool.or_eq_true] at hok
  obtain ⟨_, ⟨h1, h2⟩, _, _, _, _, _, _, ha, hl, _⟩ := hok
  have hch : chain h = (chainO h.calls h.calls.length h.now).getD [] := by
    unfold chain
    rw [chainF_O]
    cases chainO h.calls h.calls.length h.now <;> simp
  cases hO : chainO h.calls h.calls.length h.now with
  | some l => rw [hch, hO]; rfl
  | none =>
    exfalso
    rw [hO] at hch
    simp only [Option.getD_none] at hch
    rw [hch] at hl
    rcases ha with h0 | h0
    · cases hc : h.calls.length <;> rw [hc] at hO <;> simp [chainO, h0] at hO
    · unfold aliveAt at h0
      cases hc : h.calls[h.now.toNat]? with
      | none => rw [hc] at h0; cases h0
      | some c =>
        rw [hc] at h0
        simp only [Bool.not_eq_true'] at h0
        have : c ∈ h.calls.filter (fun c => !c.dead) := List.mem_filter.2 ⟨List.mem_of_getElem? hc, by simp [h0]⟩
        simp only [live', List.length_nil] at hl
        have hz : h.calls.filter (fun c => !c.dead) = [] := List.length_eq_zero_iff.1 (by omega)
        rw [hz] at this
        cases this
theorem ml_14 (h : GHeap) (hhl : h.calls.length ≤ 1048576) (k : Nat) (S : List KF) (outF : List Int) (hE : ∀ fr m g v, k ≤ m → RepI k m outF v g → fr 5 = v → OutI k outF (unw AP mt (.exit 0) fr ⟨m, g⟩ S)) :
    ∀ (f : Nat) (at' : Int) (out l : List Int) (v : AVal) (g : Heap') (n : Nat), chainO h.calls f at' = some l → f + out.length = h.calls.length → k ≤ n → RepI k n out v g → outF = out ++ l.map (methOf h.calls) →
      OutI k outF (evS AP mt (.loop l_14_0) (upd (upd (upd fr0 6 (vi at')) 5 v) 3 (.pbox [lCall h.calls, vi h.now, vi h.born, lVal h.said, vi h.code])) ⟨n, g⟩ S) := by
  intro f
  induction f with
  | zero =>
    intro at' out l v g n hO hf hn hr ho
    obtain ⟨k1, k2, k3, k4, k5, k6⟩ := hr.vals
    simp only [chainO] at hO
    split at hO
    · rename_i h0
      injection hO with hO
      subst hO
      have h0' : ¬ 0 ≤ at' := by omega
      rw [S_loop]
      simp [u_14_0, b_14_0, h0', k1, k2, k3]
      exact hE _ _ _ v hn (by rw [ho]; simpa using hr) (by simp)
    · cases hO
  | succ f ih =>
    intro at' out l v g n hO hf hn hr ho
    obtain ⟨k1, k2, k3, k4, k5, k6⟩ := hr.vals
    simp only [chainO] at hO
    split at hO
    · rename_i h0
      injection hO with hO
      subst hO
      have h0' : ¬ 0 ≤ at' := by omega
      rw [S_loop]
      simp [u_14_0, b_14_0, h0', k1, k2, k3]
      exact hE _ _ _ v hn (by rw [ho]; simpa using hr) (by simp)
    · rename_i h0
      split at hO
      · cases hO
      · rename_i h1
        split at hO
        · rename_i c hcc
          split at hO
          · cases hO
          · simp only [Option.map_eq_some_iff] at hO
            obtain ⟨l', hl', rfl⟩ := hO
            have h0' : 0 ≤ at' := by omega
            have hix := fun g => idx_ok (g := g) (k := .i64) (w_Call h.calls) h0' (by simp; omega)
            obtain ⟨v', g', h2, h3⟩ := hr.app hn c.method (by omega)
            obtain ⟨j1, j2, j3, j4, j5, j6⟩ := h3.vals
            have hm1 : methOf h.calls at' = c.method := by simp [methOf, hcc]
            have hi := ih c.sender (out ++ [c.method]) l' v' g' (n + 1) hl' (by simp; omega) (by omega) h3 (by rw [ho]; simp [hm1])
            rw [S_loop]
            simp [u_14_0, b_14_0, h0', k1, k2, k3, hix, hcc, h2, j1, j2, j3]
            exact hi
        · cases hO
theorem m_14 (p : GProg) (h : GHeap) (hp : ShP p) (hh : ShH h) (k : Nat) : OutI k (methodsS p h) (run AP mt 14 [aProg p, aHeap h] ⟨k, noObj⟩) := by
  have q := m_35 (mt := mt) p h hp hh
  rw [heapOk_eq] at q
  unfold Q at q
  rw [run_evS AP_14 _ _ rfl]
  unfold methodsS
  cases h1 : heapOkS p h
  · simp [c_14, q, h1]
    exact ⟨.nils, _, noObj, rfl, le_nxt (Nat.le_refl _), .inl ⟨rfl, rfl, rfl⟩⟩
  · simp [c_14, q, h1]
    refine ml_14 (mt := mt) h hh.l k _ _ (fun fr m g v hm hr h5 => ?_) h.calls.length h.now [] (chain h) .nils noObj _ (chain_some h1) (by simp) (le_nxt (Nat.le_refl _)) (.inl ⟨rfl, rfl, rfl⟩) (by simp)
    obtain ⟨k1, k2, k3, k4, k5, k6⟩ := hr.vals
    simp [h5, k1, k2, k3]
    exact ⟨v, m, g, rfl, hm, hr⟩
end Go.Ai
set_option linter.unusedSimpArgs false
set_option linter.unusedVariables false
namespace Go.Ai
variable {mt : Nat → Nat → Option Nat}
attribute [local simp] cnd_ite gS_ite callBy_whole
theorem own_callA {f : Nat} {as : List AVal} {row' : List AVal} (ha : frzs noObj as = some as) (h : OwnRunA AP mt f as row') (G : AG) (p : List Nat) (i c : Nat) :
    ∃ row m g ow, callBy (run AP mt) (.alone false false) f as G = some (.agg row, ⟨m, ovr G.obj g⟩) ∧ G.next ≤ m ∧ RowR g ow p i c row' row ∧
      (∀ id q, ow id = some q → G.next ≤ id ∧ id < m ∧ p ++ [i] <+: q) ∧ ∀ id, id < G.next → g id = none := by
  obtain ⟨row, m, g, ow, h1, h4, h5, h6, h7⟩ := h G.next p i c
  refine ⟨row, m, g, ow, ?_, h4, h5, h6, h7⟩
  unfold callBy
  simp [ha, h1, h4]
section
variable {H H' : Heap'} {W : Ow}
theorem fz_l {es : Obj'} {q : List Nat} {v : AVal} {d : Nat} (h : Own H W q (.list es) v) (hd : dep d (.list es) = true) : frz d H v = some (.list es) := h.frz d hd
theorem fz_prog {p : GProg} {q : List Nat} {u : AVal} (h : Own H W q (lMethod p) u) : frz 8 H (.agg [u]) = some (aProg p) := by
  have h1 := h.frz 7 (by simp [dep])
  show (omap (frz 7 H) [u]).map AVal.agg = _
  simp [omap, h1]
theorem fz_heap {h : GHeap} {q q' : List Nat} {u w : AVal} (h1 : Own H W q (lCall h.calls) u) (h2 : Own H W q' (lVal h.said) w) : frz 8 H (.agg [u, vi h.now, vi h.born, w, vi h.code]) = some (aHeap h) := by
  have e1 := h1.frz 7 (by simp [dep])
  have e2 := h2.frz 7 (by simp [dep])
  have ei : ∀ n, frz 7 H (vi n) = some (vi n) := fun _ => rfl
  show (omap (frz 7 H) _).map AVal.agg = _
  simp [omap, e1, e2, ei]
theorem fz_ints {l : List Int} {q : List Nat} {u : AVal} (h : Own H W q (lInt l) u) : frz 8 H u = some (lInt l) := h.frz 8 (by simp [dep])
theorem fz2 {a b a' b' : AVal} (h1 : frz 8 H a = some a') (h2 : frz 8 H b = some b') : frzs H [a, b] = some [a', b'] := by simp [frzs, omap, h1, h2]
theorem k_16 (p : GProg) (k : Int) (hs : ShP p) (hk : 0 ≤ k) (hK : k + cntL cntMethod p ≤ 9000000000000000000) {q : List Nat} {u : AVal} {n : Nat} (h : Own H W q (lMethod p) u) :
    ∃ H', run AP mt 16 [.agg [u], vi k] ⟨n, H⟩ = some (vi (k + cntL cntMethod p), ⟨n, H'⟩) ∧ Own H' W q (lMethod (mkL mkMethod cntMethod k p)) u ∧ ∀ j, (∀ q', W j = some q' → ¬ q <+: q') → H' j = H j := by
  obtain ⟨g', h1, h2, h3⟩ := k_41 (mt := mt) p k ⟨hs.l, hs.m⟩ hk hK H W q u n h
  obtain ⟨hg, hp⟩ := own_vals h
  refine ⟨g', ?_, h2, h3⟩
  rw [run_evS AP_16 _ _ rfl]
  simp [c_16, h1, hg, hp]
theorem k_17 (h : GHeap) (k : Int) (hs : ShH h) (hk : 0 ≤ k) (hK : k + cntL cntCall h.calls + cntL cntVal h.said ≤ 9000000000000000000) {q q' : List Nat} {u w : AVal} {n : Nat} (h1 : Own H W q (lCall h.calls) u) (h2 : Own H W q' (lVal h.said) w)
    (hq : ∀ s, q <+: s → ¬ q' <+: s) : ∃ H', run AP mt 17 [.agg [u, vi h.now, vi h.born, w, vi h.code], vi k] ⟨n, H⟩ = some (vi (k + cntL cntCall h.calls + cntL cntVal h.said), ⟨n, H'⟩) ∧ ∀ j, (∀ s, W j = some s → ¬ q <+: s ∧ ¬ q' <+: s) → H' j = H j := by
  obtain ⟨g1, a1, a2, a3⟩ := k_42 (mt := mt) h.calls k ⟨hs.l, hs.c⟩ hk (by omega) H W q u n h1
  have hw : Own g1 W q' (lVal h.said) w := h2.mono (keep_of a3 (fun j s h5 h6 => hq s h6 h5))
  obtain ⟨g2, b1, b2, b3⟩ := k_43 (mt := mt) h.said (k + cntL cntCall h.calls) hs.s (by omega) (by omega) g1 W q' w n hw
  obtain ⟨hg, hp⟩ := own_vals h1
  obtain ⟨hg', hp'⟩ := own_vals h2
  refine ⟨g2, ?_, fun j hj => ?_⟩
  · rw [run_evS AP_17 _ _ rfl]
    simp [c_17, a1, b1, hg, hp, hg', hp']
  · rw [b3 j (fun s hs => (hj s hs).2), a3 j (fun s hs => (hj s hs).1)]
end
theorem pre_head {a b : Nat} {x y s : List Nat} (h : a :: x <+: s) (h' : b :: y <+: s) : a = b := by
  obtain ⟨t, rfl⟩ := h
  obtain ⟨t', h'⟩ := h'
  simp at h'
  exact h'.1.symm
theorem Gv.bindK {k n : Nat} {v r : AVal} {x : R} {P : Heap' → Prop} {d : Option Nat} {is : List AI} {fr : Fr} {ks : List Nat} {S : List KF} (h : ∃ H', x = Option.some (r, ⟨n, H'⟩) ∧ P H') (hk : ∀ H', P H' → Gv k v (isS AP mt is (put fr d r) ⟨n, H'⟩ ks S)) : Gv k v (retS AP mt x d is fr ks S) := by
  obtain ⟨H', rfl, hp⟩ := h
  exact hk H' hp
theorem law_1 (p : GProg) (h : GHeap) (hp : SmP p) (hh : SmH h) (k : Nat) : Gv k (.bool true) (run AP mt 1 [aProg p, aHeap h] ⟨k, noObj⟩) := by
  obtain ⟨x, hx, hxs, qx⟩ := z_4 (mt := mt) p hp 1048576 (by omega)
  unfold QQ at qx
  rw [run_evS AP_1 _ _ rfl]
  rcases Int.lt_or_le x 0 with hx0 | hx0
  · simp [c_1, qx, hx0]
    exact Gv.bool (by repeat (first | exact Nat.le_refl _ | apply le_nxt)) rfl
  have hx0' : ¬ x < 0 := by omega
  obtain ⟨y, hy, hys, qy⟩ := z_5 (mt := mt) h hh x ⟨hx0, hx.2⟩
  unfold QQ at qy
  rcases Int.lt_or_le y 0 with hy0 | hy0
  · simp [c_1, qx, hx0', qy, hy0]
    exact Gv.bool (by repeat (first | exact Nat.le_refl _ | apply le_nxt)) rfl
  have hy0' : ¬ y < 0 := by omega
  have hP := hxs hx0
  have hH := hys hy0
  have q7 := tq_7 (mt := mt) p hP
  have q8 := tq_8 (mt := mt) h hH
  have q13 : Q mt 13 [aProg p, aHeap h] (lInt (methodsS p h)) := Q.of rfl (fun k => (r_13 (mt := mt) p h hP hH k).gv)
  have q14 : Q mt 14 [aProg p, aHeap h] (lInt (methodsS p h)) := Q.of rfl (fun k => (m_14 (mt := mt) p h hP hH k).gv)
  unfold Q at q7 q8 q13 q14
  generalize hN : nxt AP mt 13 [aProg p, aHeap h] (nxt AP mt 8 [aHeap h] (nxt AP mt 7 [aProg p] (nxt AP mt 5 [aHeap h, vi x] (nxt AP mt 4 [aProg p, vi 1048576] k)))) = N
  have hkN : k ≤ N := by rw [← hN]; repeat (first | exact Nat.le_refl _ | apply le_nxt)
  -- x0, x1, g0
  have A0 := Acc.start N []
  obtain ⟨row0, m1, g1, o1, a1, e1, f1, i1', j1⟩ := own_callA (mt := mt) (by rfl) (t_7 (mt := mt) p hP) ⟨N, noObj⟩ [] 0 0
  obtain ⟨u, rfl, f0⟩ := f1.one
  obtain ⟨A1, l1, k1⟩ := A0.next e1 (fun id q hq => let ⟨a, b, _⟩ := i1' id q hq; ⟨a, b, List.nil_prefix⟩) j1
  obtain ⟨row1, m2, g2, o2, a2, e2, f2, i2', j2⟩ := own_callA (mt := mt) (by rfl) (t_8 (mt := mt) h hH) ⟨m1, ovr noObj g1⟩ [] 1 0
  obtain ⟨A2, l2, k2⟩ := A1.next e2 (fun id q hq => let ⟨a, b, _⟩ := i2' id q hq; ⟨a, b, List.nil_prefix⟩) j2
  obtain ⟨x0, x1, x2, x3, x4, rfl, p0, p1, p2, p3, p4⟩ : ∃ x0 x1 x2 x3 x4, row1 = [x0, x1, x2, x3, x4] ∧ Own g2 o2 [1, 0] (lCall h.calls) x0 ∧ Own g2 o2 [1, 1] (vi h.now) x1 ∧ Own g2 o2 [1, 2] (vi h.born) x2 ∧ Own g2 o2 [1, 3] (lVal h.said) x3 ∧ Own g2 o2 [1, 4] (vi h.code) x4 := by
    match row1, f2 with
    | [x0, x1, x2, x3, x4], ⟨p0, p1, p2, p3, p4, _⟩ => exact ⟨x0, x1, x2, x3, x4, rfl, p0, p1, p2, p3, p4⟩
  have e := own_scal_inv (by rfl) p1
  subst e
  have e := own_scal_inv (by rfl) p2
  subst e
  have e := own_scal_inv (by rfl) p4
  subst e
  have hu2 := l2 _ _ _ (k1 _ _ _ f0)
  have hc2 := k2 _ _ _ p0
  have hs2 := k2 _ _ _ p3
  generalize hW2 : joinW m1 (joinW N (fun _ => none) o1) o2 = W2 at *
  generalize hH2 : ovr (ovr noObj g1) g2 = H2 at *
  obtain ⟨v, m3, g3, a3, e3, r3⟩ := i_snap (G := ⟨m2, H2⟩) (fz2 (fz_prog hu2) (fz_heap hc2 hs2)) (fun k => m_14 (mt := mt) p h hP hH k)
  obtain ⟨o3, f3, i3', j3⟩ := r3.own [2]
  obtain ⟨A3, l3, k3⟩ := A2.next e3 (fun id q hq => let ⟨a, b, _⟩ := i3' id q hq; ⟨a, b, List.nil_prefix⟩) j3
  obtain ⟨v1, v2, v3, v4, v5, v6⟩ := r3.vals
  have hu3 := l3 _ _ _ hu2
  have hc3 := l3 _ _ _ hc2
  have hs3 := l3 _ _ _ hs2
  have hv3 := k3 _ _ _ f3
  dsimp only at a3 hu3 hc3 hs3 hv3
  generalize hW3 : joinW m2 W2 o3 = W3 at *
  generalize hH3 : ovr H2 g3 = H3 at *
  obtain ⟨hgu, hpu⟩ := own_vals hu3
  obtain ⟨hgc, hpc⟩ := own_vals hc3
  obtain ⟨hgs, hps⟩ := own_vals hs3
  -- compared
  have hml : (methodsS p h).length ≤ 1048576 := by
    unfold methodsS
    split
    · rw [List.length_map]; have := chain_len h; have := hH.l; omega
    · simp
  have y15 := y_15 (mt := mt) (methodsS p h) hml
  have y11 := y_11 (mt := mt) p hP
  have y12 := y_12 (mt := mt) h hH
  have b1 := fun n => q_snap (G := ⟨n, H3⟩) (fz2 (b := lInt (methodsS p h)) (fz_ints hv3) rfl) y15 rfl
  have b2 := fun n => q_snap (G := ⟨n, H3⟩) (fz2 (b := aProg p) (fz_prog hu3) rfl) y11 rfl
  have b3 := fun n => q_snap (G := ⟨n, H3⟩) (fz2 (b := aHeap h) (fz_heap hc3 hs3) rfl) y12 rfl
  -- marked
  have hn1 := cntLMethod_le p ⟨hP.l, hP.m⟩
  have hn2 := cntLCall_le h.calls ⟨hH.l, hH.c⟩
  have hn3 := cntLVal_le h.said hH.s
  have hn4 := cntLInt_le (methodsS p h) hml
  simp [c_1, qx, hx0', qy, hy0', q7, q8, q13, hN, a1, a2, hH2, a3, hH3, b1, b2, b3, v1, v2, v3, v5, hgu, hpu, hgc, hpc, hgs, hps]
  refine Gv.bindK (k_16 (mt := mt) p 1 hP (by omega) (by omega) hu3) (fun H4 hd => ?_)
  obtain ⟨d1, d2⟩ := hd
  have hc4 := hc3.mono (keep_of d2 (fun j s h5 h6 => by have := pre_head h5 h6; omega))
  have hs4 := hs3.mono (keep_of d2 (fun j s h5 h6 => by have := pre_head h5 h6; omega))
  have hv4 := hv3.mono (keep_of d2 (fun j s h5 h6 => by have := pre_head h5 h6; omega))
  simp
  refine Gv.bindK (k_17 (mt := mt) h _ hH (by omega) (by omega) hc4 hs4 (by intro s h1 h2; simpa using pre_c (p := []) h1 h2)) (fun H5 hd => ?_)
  have hv5 := hv4.mono (g' := H5) (ow' := W3) (fun j s hj h5 => ⟨fun es he => by rw [hd j (fun s' hs' => by rw [hj] at hs'; injection hs' with e; subst e; exact ⟨fun h6 => by have := pre_head h5 h6; omega, fun h6 => by have := pre_head h5 h6; omega⟩)]; exact he, hj⟩)
  have b4 := fun n => q_snap (G := ⟨n, H5⟩) (fz2 (b := lInt (methodsS p h)) (fz_ints hv5) rfl) y15 rfl
  have hneg : ¬ (1 + (cntL cntMethod p : Int) + cntL cntCall h.calls + cntL cntVal h.said < 0) := by omega
  simp [b4, hneg, v1, v2, v3, v5]
  refine Gv.bindK (k_18 (mt := mt) (methodsS p h) 1 hml (by omega) (by omega) H5 W3 [2] v _ hv5) (fun H6 hd => ?_)
  obtain ⟨d5, d6⟩ := hd
  have y19 := d_19 (mt := mt) (methodsS p h) 1 hml (by omega) (by omega)
  have b5 := fun n => q_snap (G := ⟨n, H6⟩) (fz2 (b := vi 1) (fz_ints d5) rfl) y19 rfl
  have b6 := fun n => q_snap (mt := mt) (G := ⟨n, H6⟩) (fz2 (H := H6) (a := lInt (methodsS p h)) (b := lInt (methodsS p h)) rfl rfl) y15 rfl
  have hneg2 : ¬ (1 + (cntL cntInt (methodsS p h) : Int) < 0) := by omega
  simp [b5, b6, hneg2, q7, q8, q14, v1, v2, v3, v5]
  exact Gv.bool (by have := A3.le; repeat (first | omega | apply le_nxt)) rfl
end Go.Ai
