/- Code, functions, and the whole: what a run of the lowered program answers, the program answers. -/
import Derived.Test.YtffliemhdjcflaaAiS19
import Derived.LoopN
set_option linter.unusedVariables false
set_option linter.unusedSimpArgs false
namespace Go.Ai
variable {M : SM}

def Frees (fs : List AI) : Prop := ∀ f ∈ fs, ∃ t, f = ⟨0, none, none, .free t⟩
inductive CodeP (M : SM) (bx : List Nat) (N : Nat) : AC → Code → Prop
  | skip : CodeP M bx N .skip .skip
  | ret : CodeP M bx N .ret .ret
  | exit (id) : CodeP M bx N (.exit id) (.exit id)
  | seq (a b A B) (h : CodeP M bx N a A) (k : CodeP M bx N b B) : CodeP M bx N (.seq a b) (.seq A B)
  | cond (c a b X A B) (hc : OpR M c X) (h : CodeP M bx N a A) (k : CodeP M bx N b B) : CodeP M bx N (.cond c a b) (.cond X A B)
  | block (id a A) (h : CodeP M bx N a A) : CodeP M bx N (.block id a) (.block id A)
  | loop (a A) (h : CodeP M bx N a A) : CodeP M bx N (.loop a) (.loop A)
  | reg (is fs ks id ops) (hi : ∀ i ∈ is, ∃ o, OpI M bx N ops i o) (hj : is.map (·.j) = List.range ops.size) (hf : Frees fs) : CodeP M bx N (.reg (is ++ fs) ks) (.region id ops false)
  | drawn (gs fs ks id ops) (hd : DrawnOk M bx N ops gs) (hf : Frees fs) : CodeP M bx N (.reg (flat gs ++ fs) ks) (.region id ops true)
def exO : Ex → Exit
  | .normal => .normal
  | .ret => .ret
  | .exit id => .exit id

section
variable {bx : List Nat} {N : Nat} {C0 : Cx} {w0 : World} {L : Nat → Prop} {C C' : Cx} {β : Nat → Nat} {fr fr' : Fr} {G G' : AG} {a : Act} {w w' : World}
variable {call : CallF} {mt : Nat → Nat → Option Nat} {ops : Array Oper} {Q : Exit → Act → World → Prop}

theorem kp_at (t : Nat) (fr : Fr) : ∀ ks : List Nat, kp ks fr t = if t ∈ ks then kv (fr t) else .undef := by
  intro ks
  induction ks with
  | nil => rfl
  | cons d ds ih =>
    simp only [kp, upd]
    by_cases h : t = d
    · rw [if_pos h, if_pos (by rw [h]; exact List.mem_cons_self ..), h]
    · rw [if_neg h, ih]
      by_cases h2 : t ∈ ds
      · rw [if_pos h2, if_pos (List.mem_cons_of_mem _ h2)]
      · rw [if_neg h2, if_neg (fun hm => (List.mem_cons.1 hm).elim h h2)]
theorem kp_cases (ks : List Nat) (fr : Fr) (t : Nat) : kp ks fr t = .undef ∨ (kp ks fr t = fr t ∧ ∀ d c, fr t ≠ .pptr d c) := by
  rw [kp_at]
  split
  · cases h : fr t <;> first | (right; exact ⟨rfl, by simp⟩) | (left; rfl)
  · exact .inl rfl
theorem St.keep (h : St M bx N C0 w0 L C β fr G a w) (ks : List Nat) : St M bx N C0 w0 L C β (kp ks fr) G a w := by
  refine ⟨h.le, h.un, h.gr, h.mine, h.size, h.defers, fun t => ?_, fun t cs ht => ?_, fun t t' cs cs' ht ht' => ?_, fun t d c ht => ?_, h.ims⟩
  · rcases kp_cases ks fr t with e | ⟨e, _⟩
    · rw [e]; trivial
    · rw [e]; exact h.slot t
  · rcases kp_cases ks fr t with e | ⟨e, _⟩
    · rw [e] at ht; cases ht
    · rw [e] at ht; exact h.box t cs ht
  · rcases kp_cases ks fr t with e | ⟨e, _⟩
    · rw [e] at ht; cases ht
    · rcases kp_cases ks fr t' with e' | ⟨e', _⟩
      · rw [e'] at ht'; cases ht'
      · rw [e] at ht; rw [e'] at ht'; exact h.apart t t' cs cs' ht ht'
  · rcases kp_cases ks fr t with e | ⟨e, hn⟩
    · rw [e] at ht; cases ht
    · rw [e] at ht; exact absurd ht (hn d c)
theorem St.frees : ∀ (fs : List AI) (fr : Fr) (G : AG) (s : S2), Frees fs → St M bx N C0 w0 L C β fr G a w → evIs call mt fs fr G = some s → St M bx N C0 w0 L C β s.1 s.2 a w := by
  intro fs
  induction fs with
  | nil => intro fr G s _ h he; injection he with he; subst he; exact h
  | cons f fs ih =>
    intro fr G s hf h he
    simp only [evIs, Option.bind_eq_some_iff] at he
    obtain ⟨s1, h1, h2⟩ := he
    obtain ⟨t, rfl⟩ := hf f (List.mem_cons_self ..)
    have key : St M bx N C0 w0 L C β s1.1 s1.2 a w := by
      simp only [evI, evD] at h1
      split at h1
      · injection h1 with h1; subst h1; exact h.del _
      · injection h1 with h1; subst h1; exact h.del _
      · cases h1
    exact ih s1.1 s1.2 s (fun g hg => hf g (List.mem_cons_of_mem _ hg)) key h2

/-- One region. -/
theorem reg_done {is fs : List AI} {ks : List Nat} {r : St3} (hf : Frees fs) {fuel : Nat} (he : evC call mt fuel (.reg (is ++ fs) ks) fr G = some r) :
    ∃ s, evIs call mt is fr G = some s ∧ ((∀ C' β' a' w', St M bx N C0 w0 L C' β' r.2.1 r.2.2 a' w' → Q (exO r.1) a' w') → ∀ C' β' a' w', St M bx N C0 w0 L C' β' s.1 s.2 a' w' → Q .normal a' w') := by
  simp only [evC, Option.bind_eq_some_iff] at he
  obtain ⟨s2, h1, h2⟩ := he
  rw [evIs_append] at h1
  simp only [Option.bind_eq_some_iff] at h1
  obtain ⟨s, h3, h4⟩ := h1
  injection h2 with h2
  subst h2
  exact ⟨s, h3, fun hQ C' β' a' w' hst => hQ C' β' a' w' ((St.frees fs s.1 s.2 s2 hf hst h4).keep ks)⟩

theorem code_ok (hc : CallOK M call) (hf : FnsOk M) (hm : M.P.follows .mixedOrders = true) (fuel : Nat) {ac : AC} {c : Code} (hp : CodeP M bx N ac c) :
    ∀ (Q : Exit → Act → World → Prop) (fr : Fr) (G : AG) (C : Cx) (β : Nat → Nat) (a : Act) (w : World) (r : St3), St M bx N C0 w0 L C β fr G a w → evC call mt fuel ac fr G = some r →
      (∀ C' β' a' w', St M bx N C0 w0 L C' β' r.2.1 r.2.2 a' w' → Q (exO r.1) a' w') → c.wp M.P Q a w := by
  induction hp with
  | skip => intro Q fr G C β a w r h he hQ; injection he with he; subst he; exact wp_skip (hQ C β a w h)
  | ret => intro Q fr G C β a w r h he hQ; injection he with he; subst he; exact wp_ret (hQ C β a w h)
  | exit id => intro Q fr G C β a w r h he hQ; injection he with he; subst he; exact wp_exit (hQ C β a w h)
  | seq x y A B h1 h2 ih1 ih2 =>
    intro Q fr G C β a w r h he hQ
    simp only [evC, Option.bind_eq_some_iff] at he
    obtain ⟨r1, e1, e2⟩ := he
    refine wp_seq (ih1 _ fr G C β a w r1 h e1 (fun C' β' a' w' hst => ?_))
    split at e2
    · rename_i hn
      rw [hn]
      exact ih2 Q r1.2.1 r1.2.2 C' β' a' w' r hst e2 hQ
    · rename_i hn
      injection e2 with e2
      subst e2
      have := hQ C' β' a' w' hst
      cases hx : r1.1 <;> rw [hx] at this <;> first | exact this | exact absurd hx hn
  | cond c x y X A B hc h1 h2 ih1 ih2 =>
    intro Q fr G C β a w r h he hQ
    simp only [evC] at he
    have hX := h.ev hc
    generalize c.ev fr = cv at he hX
    cases cv <;> simp only at he <;> try (cases he; done)
    rename_i t
    have hX' := vr_bool (show VR M C (.bool t) (a.eval X) from hX)
    refine wp_cond hX' ?_
    cases t with
    | true => simp only [if_true] at he ⊢; exact ih1 Q fr G C β a w r h he hQ
    | false => simp only [Bool.false_eq_true, if_false] at he ⊢; exact ih2 Q fr G C β a w r h he hQ
  | block id x A h1 ih =>
    intro Q fr G C β a w r h he hQ
    simp only [evC, Option.bind_eq_some_iff] at he
    obtain ⟨r1, e1, e2⟩ := he
    injection e2 with e2
    subst e2
    refine wp_block (ih _ fr G C β a w r1 h e1 (fun C' β' a' w' hst => ?_))
    have := hQ C' β' a' w' hst
    cases hx : r1.1 with
    | normal => rw [hx] at this; exact this
    | ret => rw [hx] at this; exact this
    | exit id' =>
      rw [hx] at this
      simp only [Exit.inBlock, exO]
      by_cases hid : id' = id
      · subst hid; simp only [if_true] at this ⊢; exact this
      · simp only [Ex.exit.injEq, if_neg hid] at this ⊢
        first | exact this | (rw [if_neg (fun e => hid e.symm)]; exact this)
  | loop x A h1 ih =>
    intro Q fr G C β a w r h he hQ
    simp only [evC] at he
    have key : ∀ (n : Nat) (fr : Fr) (G : AG) (C : Cx) (β : Nat → Nat) (a : Act) (w : World), St M bx N C0 w0 L C β fr G a w → iter (evC call mt fuel x) n fr G = some r → Code.rounds M.P A Q n a w := by
      intro n
      induction n with
      | zero => intro fr G C β a w _ hi; cases hi
      | succ n ihn =>
        intro fr G C β a w h hi
        simp only [iter, Option.bind_eq_some_iff] at hi
        obtain ⟨r1, e1, e2⟩ := hi
        rw [rounds_succ]
        refine ih _ fr G C β a w r1 h e1 (fun C' β' a' w' hst => ?_)
        split at e2
        · rename_i hn
          rw [hn]
          exact ihn r1.2.1 r1.2.2 C' β' a' w' hst e2
        · rename_i hn
          injection e2 with e2
          subst e2
          have := hQ C' β' a' w' hst
          cases hx : r1.1 <;> rw [hx] at this <;> first | exact this | exact absurd hx hn
    exact wp_loop_rounds fuel (key fuel fr G C β a w h he)
  | reg is fs ks id ops hi hj hfs =>
    intro Q fr G C β a w r h he hQ
    obtain ⟨s, h1, h2⟩ := reg_done (M := M) (bx := bx) (N := N) (C0 := C0) (w0 := w0) (L := L) (Q := Q) hfs he
    refine wp_region ?_
    rw [← hj]
    exact seq_ok hc hf is fr G C β a w s hi h h1 (h2 hQ)
  | drawn gs fs ks id ops hd hfs =>
    intro Q fr G C β a w r h he hQ
    obtain ⟨s, h1, h2⟩ := reg_done (M := M) (bx := bx) (N := N) (C0 := C0) (w0 := w0) (L := L) (Q := Q) hfs he
    refine wp_region_any hm ?_
    have hlen : gs.length = ops.size := hd.len
    rw [← hlen]
    refine any_ok hc hf hd (h2 hQ) gs.length gs _ (fr, G) C β a _ rfl (List.Sublist.refl _) (by simp [hlen]) (fun i hi => ?_) (fun i k hi hil => ?_) h.drew (evL_flat gs fr G s (fun g hg => (hd.okg g hg).2.2) h1)
    · simp only [Array.getD, Array.size_replicate, hlen, hi, dif_pos, Array.getInternal_eq_getElem, Array.getElem_replicate, true_iff]
      exact hd.all i hi
    · simp [Array.getD, hlen, hi] at hil
end
end Go.Ai
