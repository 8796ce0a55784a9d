/- Lists of numbers that grow. What a law asks of what is owned: it reads as data, it is marked. -/
import Derived.Test.YtffliemhdjcflaaB8
import Derived.Test.YtffliemhdjcflaaB9
set_option linter.unusedSimpArgs false
set_option linter.unusedVariables false
namespace Go.Ai
variable {mt : Nat → Nat → Option Nat}
attribute [local simp] cnd_ite gS_ite
/-- A list of numbers that grows, an object of its own. -/
def RepI (k m : Nat) (out : List Int) (v : AVal) (g : Heap') : Prop := (out = [] ∧ v = .nils ∧ g = noObj) ∨ (out ≠ [] ∧ ∃ id, k ≤ id ∧ id < m ∧ v = .slice id 0 out.length ∧ g = updO noObj id (some (out.map i1)))
theorem RepI.app {k n : Nat} {out : List Int} {v : AVal} {g : Heap'} (h : RepI k n out v g) (hk : k ≤ n) (x : Int) (hl : out.length ≤ 2097152) : ∃ v' g', appV 1 8 v (.list [[vi x]]) ⟨n, g⟩ = some (v', ⟨n + 1, g'⟩) ∧ RepI k (n + 1) (out ++ [x]) v' g' := by
  rcases h with ⟨rfl, rfl, rfl⟩ | ⟨hne, id, h1, h2, rfl, rfl⟩
  · refine ⟨.slice n 0 1, updO noObj n (some [[vi x]]), ?_, .inr ⟨by simp, n, hk, Nat.lt_succ_self _, by simp, by simp⟩⟩
    simp [appV, srcOf, maxA]
  · refine ⟨.slice n 0 (out.length + 1), updO noObj n (some (out.map i1 ++ [[vi x]])), ?_, .inr ⟨by simp, n, hk, Nat.lt_succ_self _, by simp, by simp⟩⟩
    have he : (updO noObj id (some (out.map i1))) id = some (out.map i1) := by simp [updO]
    have hu : updO (updO (updO noObj id (some (out.map i1))) id none) n (some (out.map i1 ++ [[vi x]])) = updO noObj n (some (out.map i1 ++ [[vi x]])) := by
      funext t
      simp only [updO]
      split
      · rfl
      · split
        · rfl
        · rfl
    have hm : out.map i1 ≠ [] := by simp [hne]
    have hc : ∀ e ∈ out.map i1, e.length = 1 := by simp
    have hb : (out.length + 1) * 8 ≤ 1099511627776 := by omega
    simp [appV, srcOf, he, hu, hne, maxA, hb]
theorem RepI.noImmO {k m : Nat} {out : List Int} {v : AVal} {g : Heap'} (h : RepI k m out v g) : noImmO g := by
  intro id es he e hm c hc
  rcases h with ⟨rfl, rfl, rfl⟩ | ⟨_, id', _, _, rfl, rfl⟩
  · cases he
  · simp only [updO] at he
    split at he
    · injection he with he; subst he
      obtain ⟨n, _, rfl⟩ := List.mem_map.1 hm
      simp at hc; subst hc; rfl
    · cases he
theorem RepI.mono {k m m' : Nat} {out : List Int} {v : AVal} {g : Heap'} (h : RepI k m out v g) (hm : m ≤ m') : RepI k m' out v g := by
  rcases h with h | ⟨h0, id, h1, h2, h3⟩
  · exact .inl h
  · exact .inr ⟨h0, id, h1, by omega, h3⟩
theorem RepI.rep {k m : Nat} {out : List Int} {v : AVal} {g : Heap'} (h : RepI k m out v g) : Rep out v g := by
  rcases h with h | ⟨h0, id, h1, h2, h3, h4⟩
  · exact .inl h
  · exact .inr ⟨h0, id, h3, h4⟩
theorem RepI.own {k m : Nat} {out : List Int} {v : AVal} {g : Heap'} (h : RepI k m out v g) (p : List Nat) : ∃ ow, Own g ow p (lInt out) v ∧ (∀ id q, ow id = some q → k ≤ id ∧ id < m ∧ p <+: q) ∧ ∀ id, id < k → g id = none := by
  rcases h with ⟨rfl, rfl, rfl⟩ | ⟨hne, id, h1, h2, rfl, rfl⟩
  · exact ⟨fun _ => none, .nil _, fun _ _ h => (by cases h), fun _ _ => rfl⟩
  · refine ⟨fun t => if t = id then some p else none, Own.mkFlat (fun e he x hx => ?_) (by simp [hne]) (by simp) (by simp) (by simp [updO]), fun j q hj => ?_, fun j hj => ?_⟩
    · obtain ⟨n, _, rfl⟩ := List.mem_map.1 he
      simp at hx; subst hx; rfl
    · dsimp only at hj
      split at hj
      · rename_i e; subst e; injection hj with hj; subst hj; exact ⟨h1, h2, List.prefix_refl _⟩
      · cases hj
    · simp only [updO]; rw [if_neg (by omega)]; rfl
/-- Numbers that are answered owned. -/
def OutI (k : Nat) (out : List Int) (x : R) : Prop := ∃ v m g, x = some (v, ⟨m, g⟩) ∧ k ≤ m ∧ RepI k m out v g
theorem OutI.gv {k : Nat} {out : List Int} {x : R} (h : OutI k out x) : Gv k (lInt out) x := by
  obtain ⟨v, m, g, h1, h2, h3⟩ := h
  exact ⟨v, m, g, h1, h2, frz_rep h3.rep⟩
theorem chain_some {p : GProg} {h : GHeap} (hok : heapOkS p h = true) : chainO h.calls h.calls.length h.now = some (chain h) := by
  simp only [heapOkS, Bool.and_eq_true, decide_eq_true_eq, inR_iff, List.all_eq_true, tailOk, Bool.or_eq_true] at hok
  obtain ⟨_, ⟨h1, h2⟩, _, _, _, _, _, _, ha, hl, _⟩ := hok
  have hch : chain h = (chainO h.calls h.calls.length h.now).getD [] := by
    unfold chain
    rw [chainF_O]
    cases chainO h.calls h.calls.length h.now <;> simp
  cases hO : chainO h.calls h.calls.length h.now with
  | some l => rw [hch, hO]; rfl
  | none =>
    exfalso
    rw [hO] at hch
    simp only [Option.getD_none] at hch
    rw [hch] at hl
    rcases ha with h0 | h0
    · cases hc : h.calls.length <;> rw [hc] at hO <;> simp [chainO, h0] at hO
    · unfold aliveAt at h0
      cases hc : h.calls[h.now.toNat]? with
      | none => rw [hc] at h0; cases h0
      | some c =>
        rw [hc] at h0
        simp only [Bool.not_eq_true'] at h0
        have : c ∈ h.calls.filter (fun c => !c.dead) := List.mem_filter.2 ⟨List.mem_of_getElem? hc, by simp [h0]⟩
        simp only [live', List.length_nil] at hl
        have hz : h.calls.filter (fun c => !c.dead) = [] := List.length_eq_zero_iff.1 (by omega)
        rw [hz] at this
        cases this
end Go.Ai
set_option linter.unusedSimpArgs false
set_option linter.unusedVariables false
namespace Go.Ai
variable {mt : Nat → Nat → Option Nat}
attribute [local simp] cnd_ite gS_ite callBy_whole
section
variable {H H' : Heap'} {W : Ow}
end
theorem pre_head {a b : Nat} {x y s : List Nat} (h : a :: x <+: s) (h' : b :: y <+: s) : a = b := by
  obtain ⟨t, rfl⟩ := h
  obtain ⟨t', h'⟩ := h'
  simp at h'
  exact h'.1.symm
end Go.Ai
