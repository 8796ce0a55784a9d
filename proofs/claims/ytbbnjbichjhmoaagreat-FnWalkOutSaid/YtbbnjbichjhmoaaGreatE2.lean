/- One goes out of a call till it has returned: plain data. The laws FnWalkOut and FnWalkOutTwice, as runs of the lowered program. -/
import Derived.Test.YtbbnjbichjhmoaaGreatE1
set_option linter.unusedSimpArgs false
set_option linter.unusedVariables false
namespace Go.Ai
theorem whileS_false {p : GProg} {C : GHeap → Bool} {f : Nat} {h : GHeap} (hc : C h = false) : whileS p C f h = h := by
  cases f with
  | zero => rfl
  | succ f => unfold whileS; rw [if_neg (fun hx => by rw [hc] at hx; cases hx.2)]
theorem deep_len {p : GProg} {h : GHeap} {l : List Int} (w : WF p h l) : deepS h = l.length := by unfold deepS; rw [w.chain]
/-- Calls that wait, of a heap that goes out: those that did wait below, or some of them have gone. -/
theorem out_inv {p : GProg} {lh : List Int} : ∀ (f : Nat) {y : GHeap} {l : List Int}, WF p y l → (∃ pre, l = pre ++ lh) →
    ∃ l', WF p (whileS p (fun x => decide ((lh.length : Int) - 1 < deepS x)) f y) l' ∧ ((∃ pre, l' = pre ++ lh) ∨ ∃ l1, l1 ≠ [] ∧ lh = l1 ++ l') := by
  intro f
  induction f with
  | zero => intro y l w h; exact ⟨l, w, .inl h⟩
  | succ f ih =>
    intro y l w h
    unfold whileS
    split
    · rename_i hc
      obtain ⟨l', w', ch⟩ := step_ch w (w.run0 hc.1)
      obtain ⟨pre, hl⟩ := h
      rcases ch with ⟨n, e⟩ | ⟨l1, e⟩
      · exact ih w' ⟨n :: pre, by rw [e, hl]; rfl⟩
      · rw [hl] at e
        rcases List.append_eq_append_iff.1 e with ⟨as, e1, e2⟩ | ⟨bs, e1, e2⟩
        · by_cases hn : as = []
          · subst hn
            exact ih w' ⟨[], by simpa using e2.symm⟩
          · have hlt : l'.length < lh.length := by rw [e2]; have := List.length_pos_iff.2 hn; simp; omega
            rw [whileS_false (by rw [deep_len w']; simp; omega)]
            exact ⟨l', w', .inr ⟨as, hn, e2⟩⟩
        · exact ih w' ⟨bs, e2⟩
    · exact ⟨l, w, .inl h⟩
theorem out_law {p : GProg} {h : GHeap} {l : List Int} (w : WF p h l) (f : Nat) : let x := whileS p (fun x => decide (deepS h - 1 < deepS x)) f h
    (∃ l', WF p x l') ∧ h.calls.length ≤ x.calls.length ∧ (0 ≤ h.now → ∃ c, x.calls[h.now.toNat]? = some c ∧ ((c.dead = false ∧ deepS h ≤ deepS x) ∨ (c.dead = true ∧ deepS x < deepS h))) := by
  intro x
  have hd := deep_len w
  obtain ⟨l', w', hl⟩ := out_inv (lh := l) f w ⟨[], rfl⟩
  rw [← hd] at w'
  refine ⟨⟨l', w'⟩, while_len _ _ _ _, fun h0 => ?_⟩
  obtain ⟨c, m, t, e, hc, hdead, ht, _, hn⟩ := w.head h0
  have hlt := (List.getElem?_eq_some_iff.1 hc).1
  have hle : h.calls.length ≤ x.calls.length := while_len _ _ _ _
  obtain ⟨c', hc'⟩ : ∃ c', x.calls[h.now.toNat]? = some c' := ⟨_, List.getElem?_eq_getElem (by omega)⟩
  refine ⟨c', hc', ?_⟩
  have hdx : deepS x = l'.length := deep_len w'
  rcases hl with ⟨pre, e'⟩ | ⟨l1, hne, e'⟩
  · left
    have hm : h.now ∈ l' := by rw [e', e]; simp
    obtain ⟨_, d, h1, h2⟩ := w'.up.mem _ hm
    have h1' : x.calls[h.now.toNat]? = some d := h1
    rw [hc'] at h1'
    injection h1' with h1'
    rw [h1']
    refine ⟨h2, ?_⟩
    rw [hdx, hd, e']; simp; omega
  · right
    have hlen : l'.length < l.length := by rw [e']; have := List.length_pos_iff.2 hne; simp; omega
    refine ⟨?_, by omega⟩
    cases hdd : c'.dead with
    | true => rfl
    | false =>
      have := w'.al _ c' hc' hdd
      rw [show ((h.now.toNat : Nat) : Int) = h.now by omega] at this
      cases l1 with
      | nil => exact absurd rfl hne
      | cons a as =>
        rw [e] at e'
        simp only [List.cons_append, List.cons.injEq] at e'
        exact absurd (by rw [e'.2]; exact List.mem_append_right _ this) hn
end Go.Ai
set_option linter.unusedSimpArgs false
set_option linter.unusedVariables false
namespace Go.Ai
attribute [local simp] cnd_ite gS_ite callBy_whole
theorem q_at {AP' : Nat → Option AFn} {mt : Nat → Nat → Option Nat} {f : Nat} {as : List AVal} {v : AVal} {k : Nat} (ha : frzs noObj as = some as) (h : Gv k v (run AP' mt f as ⟨k, noObj⟩)) (g : Heap') : callBy (run AP' mt) (.alone false true) f as ⟨k, g⟩ = some (v, ⟨nxt AP' mt f as k, g⟩) := by
  obtain ⟨r, m, g', h1, h2, h3⟩ := h
  exact call_alone ha (prun_of h1 h2 h3)
theorem law_163 (b : List Nat) (hb : b.length ≤ 9223372036854775807 ∧ ∀ x ∈ b, x < 256) (k : Nat) : Gv k (.bool true) (run AP MT 163 [lB b] ⟨k, noObj⟩) := by
  rw [run_evS AP_163 _ _ rfl]
  by_cases hlen : (1048576 : Int) < b.length
  · simp [c_163, hlen]
    exact Gv.bool (Nat.le_refl _) rfl
  obtain ⟨p, h, most, hp, hs, m0, m1, hd⟩ := (draw_171 (mt := MT) b hb.1 hb.2 k).toQ
  have qd := q_at (AP' := AP) (mt := MT) (f := 171) (as := [lB b]) rfl hd noObj
  obtain ⟨_, _, _, _, _, _, hP⟩ := prog_cons hp
  have hH := hs.sh
  have hR : ShH (outR p h most).1 := outR_sh p h most (by have := hs.s; omega)
  have q172 := s_172 (mt := MT) p h most hP hH
  have q173 := q_173 p h most hP hH
  have q174 := lm_174 (mt := MT) (outR p h most).1 (outR p h most).1 hR
  rw [sameB_self] at q174
  unfold Q at q172 q173 q174
  by_cases hok : heapOkS p h = true ∧ inR most 0 400 = true
  rotate_left
  · have e : outR p h most = (zeroH, false) := by unfold outR; rw [if_neg hok]
    rw [e] at q172 q173 q174
    simp [c_163, hlen, qd, q172, q173, q174]
    exact Gv.bool (by repeat (first | exact Nat.le_refl _ | apply le_nxt)) rfl
  have w := wf_of hok.1
  have e : outR p h most = (whileS p (fun x => decide (deepS h - 1 < deepS x)) most.toNat h, true) := by unfold outR; rw [if_pos hok]
  obtain ⟨⟨l', w'⟩, hle, hn⟩ := out_law w most.toNat
  rw [e] at q172 q173 q174 hR
  generalize whileS p (fun x => decide (deepS h - 1 < deepS x)) most.toNat h = X at *
  have q35 := m_35 (mt := MT) p X hP hR
  rw [heapOk_eq, ok_of w'] at q35
  have q26 := m_26 (mt := MT) X hR.l
  have q26h := m_26 (mt := MT) h hH.l
  unfold Q at q35 q26 q26h
  by_cases hneg : h.now < 0
  · simp [c_163, hlen, qd, q172, q173, q174, hneg, q35]
    exact Gv.bool (by repeat (first | exact Nat.le_refl _ | apply le_nxt)) rfl
  obtain ⟨c, hc, hcd⟩ := hn (by omega)
  have hlt := (List.getElem?_eq_some_iff.1 hc).1
  have hix := fun g => idx_ok (g := g) (k := .i64) (w_Call X.calls) (show (0:Int) ≤ h.now by omega) (by simp; omega)
  rcases hcd with ⟨hdead, hdeep⟩ | ⟨hdead, hdeep⟩
  · by_cases hx : X.code = 0
    · have hx' : (X.code = 0) = True := eq_true hx
      simp [c_163, hlen, qd, q172, q173, q174, hneg, q35, hix, hc, hdead, hx', q26, q26h, hdeep]
      exact Gv.bool (by repeat (first | exact Nat.le_refl _ | apply le_nxt)) rfl
    · simp [c_163, hlen, qd, q172, q173, q174, hneg, q35, hix, hc, hdead, hx]
      exact Gv.bool (by repeat (first | exact Nat.le_refl _ | apply le_nxt)) rfl
  · simp [c_163, hlen, qd, q172, q173, q174, hneg, q35, hix, hc, hdead, q26, q26h, hdeep]
    exact Gv.bool (by repeat (first | exact Nat.le_refl _ | apply le_nxt)) rfl
end Go.Ai
