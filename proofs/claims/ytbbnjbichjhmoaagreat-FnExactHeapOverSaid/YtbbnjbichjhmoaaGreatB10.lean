/- Lists of numbers that grow. What a law asks of what is owned: it reads as data, it is marked. -/
import Derived.Test.YtbbnjbichjhmoaaGreatB8
import Derived.Test.YtbbnjbichjhmoaaGreatB9
set_option linter.unusedSimpArgs false
set_option linter.unusedVariables false
namespace Go.Ai
variable {mt : Nat → Nat → Option Nat}
attribute [local simp] cnd_ite gS_ite
/-- A list of numbers that grows, an object of its own. -/
def RepI (k m : Nat) (out : List Int) (v : AVal) (g : Heap') : Prop := (out = [] ∧ v = .nils ∧ g = noObj) ∨ (out ≠ [] ∧ ∃ id, k ≤ id ∧ id < m ∧ v = .slice id 0 out.length ∧ g = updO noObj id (some (out.map i1)))
theorem RepI.app {k n : Nat} {out : List Int} {v : AVal} {g : Heap'} (h : RepI k n out v g) (hk : k ≤ n) (x : Int) (hl : out.length ≤ 2097152) : ∃ v' g', appV 1 8 v (.list [[vi x]]) ⟨n, g⟩ = some (v', ⟨n + 1, g'⟩) ∧ RepI k (n + 1) (out ++ [x]) v' g' := by
  rcases h with ⟨rfl, rfl, rfl⟩ | ⟨hne, id, h1, h2, rfl, rfl⟩
  · refine ⟨.slice n 0 1, updO noObj n (some [[vi x]]), ?_, .inr ⟨by simp, n, hk, Nat.lt_succ_self _, by simp, by simp⟩⟩
    simp [appV, srcOf, maxA]
  · refine ⟨.slice n 0 (out.length + 1), updO noObj n (some (out.map i1 ++ [[vi x]])), ?_, .inr ⟨by simp, n, hk, Nat.lt_succ_self _, by simp, by simp⟩⟩
    have he : (updO noObj id (some (out.map i1))) id = some (out.map i1) := by simp [updO]
    have hu : updO (updO (updO noObj id (some (out.map i1))) id none) n (some (out.map i1 ++ [[vi x]])) = updO noObj n (some (out.map i1 ++ [[vi x]])) := by
      funext t
      simp only [updO]
      split
      · rfl
      · split
        · rfl
        · rfl
    have hm : out.map i1 ≠ [] := by simp [hne]
    have hc : ∀ e ∈ out.map i1, e.length = 1 := by simp
    have hb : (out.length + 1) * 8 ≤ 1099511627776 := by omega
    simp [appV, srcOf, he, hu, hne, maxA, hb]
theorem RepI.vals {k m : Nat} {out : List Int} {v : AVal} {g : Heap'} (h : RepI k m out v g) : kv v = v ∧ gv v = some v ∧ (∀ d, pv d v = v) ∧ lenV v = some (vi out.length) ∧ cellsOf v = some [v] ∧ noImm v = true := by
  rcases h with ⟨rfl, rfl, rfl⟩ | ⟨_, id, _, _, rfl, rfl⟩
  · exact ⟨rfl, rfl, fun _ => rfl, rfl, rfl, rfl⟩
  · exact ⟨rfl, rfl, fun _ => rfl, rfl, rfl, rfl⟩
theorem RepI.noImmO {k m : Nat} {out : List Int} {v : AVal} {g : Heap'} (h : RepI k m out v g) : noImmO g := by
  intro id es he e hm c hc
  rcases h with ⟨rfl, rfl, rfl⟩ | ⟨_, id', _, _, rfl, rfl⟩
  · cases he
  · simp only [updO] at he
    split at he
    · injection he with he; subst he
      obtain ⟨n, _, rfl⟩ := List.mem_map.1 hm
      simp at hc; subst hc; rfl
    · cases he
theorem RepI.mono {k m m' : Nat} {out : List Int} {v : AVal} {g : Heap'} (h : RepI k m out v g) (hm : m ≤ m') : RepI k m' out v g := by
  rcases h with h | ⟨h0, id, h1, h2, h3⟩
  · exact .inl h
  · exact .inr ⟨h0, id, h1, by omega, h3⟩
theorem RepI.rep {k m : Nat} {out : List Int} {v : AVal} {g : Heap'} (h : RepI k m out v g) : Rep out v g := by
  rcases h with h | ⟨h0, id, h1, h2, h3, h4⟩
  · exact .inl h
  · exact .inr ⟨h0, id, h3, h4⟩
theorem RepI.own {k m : Nat} {out : List Int} {v : AVal} {g : Heap'} (h : RepI k m out v g) (p : List Nat) : ∃ ow, Own g ow p (lInt out) v ∧ (∀ id q, ow id = some q → k ≤ id ∧ id < m ∧ p <+: q) ∧ ∀ id, id < k → g id = none := by
  rcases h with ⟨rfl, rfl, rfl⟩ | ⟨hne, id, h1, h2, rfl, rfl⟩
  · exact ⟨fun _ => none, .nil _, fun _ _ h => (by cases h), fun _ _ => rfl⟩
  · refine ⟨fun t => if t = id then some p else none, Own.mkFlat (fun e he x hx => ?_) (by simp [hne]) (by simp) (by simp) (by simp [updO]), fun j q hj => ?_, fun j hj => ?_⟩
    · obtain ⟨n, _, rfl⟩ := List.mem_map.1 he
      simp at hx; subst hx; rfl
    · dsimp only at hj
      split at hj
      · rename_i e; subst e; injection hj with hj; subst hj; exact ⟨h1, h2, List.prefix_refl _⟩
      · cases hj
    · simp only [updO]; rw [if_neg (by omega)]; rfl
/-- Numbers that are answered owned. -/
def OutI (k : Nat) (out : List Int) (x : R) : Prop := ∃ v m g, x = some (v, ⟨m, g⟩) ∧ k ≤ m ∧ RepI k m out v g
theorem OutI.gv {k : Nat} {out : List Int} {x : R} (h : OutI k out x) : Gv k (lInt out) x := by
  obtain ⟨v, m, g, h1, h2, h3⟩ := h
  exact ⟨v, m, g, h1, h2, frz_rep h3.rep⟩
/-- Called with what is looked at, answered owned. -/
theorem i_snap {f : Nat} {as as' : List AVal} {out : List Int} {G : AG} (ha : frzs G.obj as = some as') (h : ∀ k, OutI k out (run AP mt f as' ⟨k, noObj⟩)) :
    ∃ v m g, callBy (run AP mt) (.alone true false) f as G = some (v, ⟨m, ovr G.obj g⟩) ∧ G.next ≤ m ∧ RepI G.next m out v g := by
  obtain ⟨v, m, g, h1, h2, h3⟩ := h G.next
  refine ⟨v, m, g, ?_, h2, h3⟩
  unfold callBy
  have h4 := h3.vals.2.2.2.2.2
  have h5 := h3.noImmO
  simp [ha, h1, h2, h4, h5]

theorem chain_some {p : GProg} {h : GHeap} (hok : heapOkS p h = true) : chainO h.calls h.calls.length h.now = some (chain h) := by
  simp only [heapOkS, Bool.and_eq_true, decide_eq_true_eq, inR_iff, List.all_eq_true, tailOk, Bool.or_eq_true] at hok
  obtain ⟨_, ⟨h1, h2⟩, _, _, _, _, _, _, ha, hl, _⟩ := hok
  have hch : chain h = (chainO h.calls h.calls.length h.now).getD [] := by
    unfold chain
    rw [chainF_O]
    cases chainO h.calls h.calls.length h.now <;> simp
  cases hO : chainO h.calls h.calls.length h.now with
  | some l => rw [hch, hO]; rfl
  | none =>
    exfalso
    rw [hO] at hch
    simp only [Option.getD_none] at hch
    rw [hch] at hl
    rcases ha with h0 | h0
    · cases hc : h.calls.length <;> rw [hc] at hO <;> simp [chainO, h0] at hO
    · unfold aliveAt at h0
      cases hc : h.calls[h.now.toNat]? with
      | none => rw [hc] at h0; cases h0
      | some c =>
        rw [hc] at h0
        simp only [Bool.not_eq_true'] at h0
        have : c ∈ h.calls.filter (fun c => !c.dead) := List.mem_filter.2 ⟨List.mem_of_getElem? hc, by simp [h0]⟩
        simp only [live', List.length_nil] at hl
        have hz : h.calls.filter (fun c => !c.dead) = [] := List.length_eq_zero_iff.1 (by omega)
        rw [hz] at this
        cases this
end Go.Ai
set_option linter.unusedSimpArgs false
set_option linter.unusedVariables false
namespace Go.Ai
variable {mt : Nat → Nat → Option Nat}
attribute [local simp] cnd_ite gS_ite callBy_whole
theorem own_callA {f : Nat} {as : List AVal} {row' : List AVal} (ha : frzs noObj as = some as) (h : OwnRunA AP mt f as row') (G : AG) (p : List Nat) (i c : Nat) :
    ∃ row m g ow, callBy (run AP mt) (.alone false false) f as G = some (.agg row, ⟨m, ovr G.obj g⟩) ∧ G.next ≤ m ∧ RowR g ow p i c row' row ∧
      (∀ id q, ow id = some q → G.next ≤ id ∧ id < m ∧ p ++ [i] <+: q) ∧ ∀ id, id < G.next → g id = none := by
  obtain ⟨row, m, g, ow, h1, h4, h5, h6, h7⟩ := h G.next p i c
  refine ⟨row, m, g, ow, ?_, h4, h5, h6, h7⟩
  unfold callBy
  simp [ha, h1, h4]
section
variable {H H' : Heap'} {W : Ow}
theorem fz_l {es : Obj'} {q : List Nat} {v : AVal} {d : Nat} (h : Own H W q (.list es) v) (hd : dep d (.list es) = true) : frz d H v = some (.list es) := h.frz d hd
theorem fz_prog {p : GProg} {q : List Nat} {u : AVal} (h : Own H W q (lMethod p) u) : frz 8 H (.agg [u]) = some (aProg p) := by
  have h1 := h.frz 7 (by simp [dep])
  show (omap (frz 7 H) [u]).map AVal.agg = _
  simp [omap, h1]
theorem fz_heap {h : GHeap} {q q' : List Nat} {u w : AVal} (h1 : Own H W q (lCall h.calls) u) (h2 : Own H W q' (lVal h.said) w) : frz 8 H (.agg [u, vi h.now, vi h.born, w, vi h.code]) = some (aHeap h) := by
  have e1 := h1.frz 7 (by simp [dep])
  have e2 := h2.frz 7 (by simp [dep])
  have ei : ∀ n, frz 7 H (vi n) = some (vi n) := fun _ => rfl
  show (omap (frz 7 H) _).map AVal.agg = _
  simp [omap, e1, e2, ei]
theorem fz_ints {l : List Int} {q : List Nat} {u : AVal} (h : Own H W q (lInt l) u) : frz 8 H u = some (lInt l) := h.frz 8 (by simp [dep])
theorem fz2 {a b a' b' : AVal} (h1 : frz 8 H a = some a') (h2 : frz 8 H b = some b') : frzs H [a, b] = some [a', b'] := by simp [frzs, omap, h1, h2]
theorem k_16 (p : GProg) (k : Int) (hs : ShP p) (hk : 0 ≤ k) (hK : k + cntL cntMethod p ≤ 9000000000000000000) {q : List Nat} {u : AVal} {n : Nat} (h : Own H W q (lMethod p) u) :
    ∃ H', run AP mt 16 [.agg [u], vi k] ⟨n, H⟩ = some (vi (k + cntL cntMethod p), ⟨n, H'⟩) ∧ Own H' W q (lMethod (mkL mkMethod cntMethod k p)) u ∧ ∀ j, (∀ q', W j = some q' → ¬ q <+: q') → H' j = H j := by
  obtain ⟨g', h1, h2, h3⟩ := k_41 (mt := mt) p k ⟨hs.l, hs.m⟩ hk hK H W q u n h
  obtain ⟨hg, hp⟩ := own_vals h
  refine ⟨g', ?_, h2, h3⟩
  rw [run_evS AP_16 _ _ rfl]
  simp [c_16, h1, hg, hp]
theorem k_17 (h : GHeap) (k : Int) (hs : ShH h) (hk : 0 ≤ k) (hK : k + cntL cntCall h.calls + cntL cntVal h.said ≤ 9000000000000000000) {q q' : List Nat} {u w : AVal} {n : Nat} (h1 : Own H W q (lCall h.calls) u) (h2 : Own H W q' (lVal h.said) w)
    (hq : ∀ s, q <+: s → ¬ q' <+: s) : ∃ H', run AP mt 17 [.agg [u, vi h.now, vi h.born, w, vi h.code], vi k] ⟨n, H⟩ = some (vi (k + cntL cntCall h.calls + cntL cntVal h.said), ⟨n, H'⟩) ∧ ∀ j, (∀ s, W j = some s → ¬ q <+: s ∧ ¬ q' <+: s) → H' j = H j := by
  obtain ⟨g1, a1, a2, a3⟩ := k_42 (mt := mt) h.calls k ⟨hs.l, hs.c⟩ hk (by omega) H W q u n h1
  have hw : Own g1 W q' (lVal h.said) w := h2.mono (keep_of a3 (fun j s h5 h6 => hq s h6 h5))
  obtain ⟨g2, b1, b2, b3⟩ := k_43 (mt := mt) h.said (k + cntL cntCall h.calls) hs.s (by omega) (by omega) g1 W q' w n hw
  obtain ⟨hg, hp⟩ := own_vals h1
  obtain ⟨hg', hp'⟩ := own_vals h2
  refine ⟨g2, ?_, fun j hj => ?_⟩
  · rw [run_evS AP_17 _ _ rfl]
    simp [c_17, a1, b1, hg, hp, hg', hp']
  · rw [b3 j (fun s hs => (hj s hs).2), a3 j (fun s hs => (hj s hs).1)]
end
theorem pre_head {a b : Nat} {x y s : List Nat} (h : a :: x <+: s) (h' : b :: y <+: s) : a = b := by
  obtain ⟨t, rfl⟩ := h
  obtain ⟨t', h'⟩ := h'
  simp at h'
  exact h'.1.symm
theorem Gv.bindK {k n : Nat} {v r : AVal} {x : R} {P : Heap' → Prop} {d : Option Nat} {is : List AI} {fr : Fr} {ks : List Nat} {S : List KF} (h : ∃ H', x = Option.some (r, ⟨n, H'⟩) ∧ P H') (hk : ∀ H', P H' → Gv k v (isS AP mt is (put fr d r) ⟨n, H'⟩ ks S)) : Gv k v (retS AP mt x d is fr ks S) := by
  obtain ⟨H', rfl, hp⟩ := h
  exact hk H' hp
end Go.Ai
