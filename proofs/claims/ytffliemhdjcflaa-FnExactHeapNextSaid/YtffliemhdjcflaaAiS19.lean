/- Regions: in the text's order, in an order that is drawn. -/
import Derived.Test.YtffliemhdjcflaaAiS18
set_option linter.unusedVariables false
set_option linter.unusedSimpArgs false
namespace Go.Ai
variable {M : SM}

inductive GrdOk (ops : Array Oper) : Option (Nat × Bool) → Option (Nat × Bool) → Prop
  | none : GrdOk ops none none
  | some (s w jj og) (h1 : ops[jj]? = some og) (h2 : og.dst = some s) : GrdOk ops (some (s, w)) (some (jj, w))
structure OpI (M : SM) (bx : List Nat) (N : Nat) (ops : Array Oper) (i : AI) (o : Oper) : Prop where
  at_ : ops[i.j]? = some o
  dst : i.dst = o.dst
  op : OpA M bx N o.dst i.op o.op
  g : GrdOk ops i.grd o.guard
  bx : i.op.isBox = true → i.grd = none
theorem OpA.dst {bx : List Nat} {N : Nat} {dst : Option Tmp} {o : AOp} {op : Op} (h : OpA M bx N dst o op) (hb : o.isBox = false) : DstOk bx N dst := by
  cases h <;> first | assumption | (simp [AOp.isBox] at hb; done) | skip
  rename_i hs hd; subst hd; intro t ht; cases ht
section
variable {bx : List Nat} {N : Nat} {C0 : Cx} {w0 : World} {L : Nat → Prop} {C C' : Cx} {β : Nat → Nat} {fr fr' : Fr} {G G' : AG} {a : Act} {w w' : World}
variable {call : CallF} {mt : Nat → Nat → Option Nat} {ops : Array Oper} {Q : Exit → Act → World → Prop}

theorem evD_eq {j : Nat} {d : Option Nat} {g g' : Option (Nat × Bool)} {o : AOp} : evD call mt ⟨j, d, g, o⟩ fr G = evD call mt ⟨j, d, g', o⟩ fr G := by cases o <;> rfl
theorem St.yield (h : St M bx N C0 w0 L C β fr G a w) {s jj : Nat} {og : Oper} (h1 : ops[jj]? = some og) (h2 : og.dst = some s) :
    (∀ b, fr s = .bool b → yielded ops a.tmps jj = some b) ∧ (fr s = .tuple [] → yielded ops a.tmps jj = none) := by
  have hs := h.slot s
  constructor
  · intro b hb
    rw [hb] at hs
    have hv := vr_bool (show VR M C (.bool b) (a.tmps.getD s undef) from hs)
    have hlt : s < a.tmps.size := by
      rcases Nat.lt_or_ge s a.tmps.size with h3 | h3
      · exact h3
      · simp [Array.getD, Nat.not_lt.2 h3, undef] at hv
    have : a.tmps[s]? = some (.bool b) := by
      rw [Array.getElem?_eq_getElem hlt]
      simp [Array.getD, hlt] at hv
      rw [hv]
    simp [yielded, h1, h2, this]
  · intro hb
    rw [hb] at hs
    obtain ⟨arr, hv, hl, _⟩ := vr_tuple (show VR M C (.tuple []) (a.tmps.getD s undef) from hs)
    simp only [yielded, h1, h2, Option.bind_some]
    cases hg : a.tmps[s]? with
    | none => rfl
    | some v =>
      have : a.tmps.getD s undef = v := by simp [hg]
      rw [this] at hv
      rw [hv]
theorem step_ok (hc : CallOK M call) (hf : FnsOk M) (h : St M bx N C0 w0 L C β fr G a w) {i : AI} {o : Oper} (hi : OpI M bx N ops i o) (he : evI call mt i fr G = some (fr', G')) {K : Act → World → Prop}
    (hK : ∀ C' β' a' w', St M bx N C0 w0 L C' β' fr' G' a' w' → K a' w') : wpOp M.P ops Q i.j K a w := by
  obtain ⟨j, d, g, op⟩ := i
  obtain ⟨hat, hdst, hop, hg, hbx⟩ := hi
  have hat' : ops[j]? = some o := hat
  have hdst' : d = o.dst := hdst
  subst hdst'
  have hgo : evD call mt ⟨j, o.dst, g, op⟩ fr G = some (fr', G') → o.wp M.P a w K Q := by
    intro hd
    rw [evD_eq (g' := none)] at hd
    have := op_ok (j := j) (ty := o.type) (pos := o.pos) (after := o.after) (guard := o.guard) hc hf h hop hd
    exact this K Q (fun C' β' w' V hst => hK C' β' _ w' hst)
  have hskip : op.isBox = false → (some (put fr o.dst (.tuple []), G) : Option (Fr × AG)) = some (fr', G') → K (a.put o.dst undef) w := by
    intro hb he
    injection he with he; injection he with e1 e2
    subst e1 e2
    refine hK C β _ w (h.put (hop.dst hb) ?_)
    exact evR_of_VR (.tuple [] #[] rfl (by simp))
  unfold wpOp
  simp only [hat']
  unfold evI at he
  cases hgd : g with
  | none =>
    subst hgd
    simp only at he
    have hgn : o.guard = none := by
      have hg' : GrdOk ops none o.guard := hg
      generalize o.guard = og at hg'
      cases hg'
      rfl
    have : Region.wanted o (yielded ops a.tmps) = true := by simp [Region.wanted, hgn]
    rw [if_pos this]
    exact .inl (hgo he)
  | some sw =>
    obtain ⟨s, w'⟩ := sw
    subst hgd
    simp only at he
    have hg' : GrdOk ops (some (s, w')) o.guard := hg
    have hnb : op.isBox = false := by
      cases hb : op.isBox with
      | false => rfl
      | true => have := hbx hb; cases this
    generalize hgg : o.guard = og at hg'
    cases hg' with
    | some _ _ jj og h1 h2 =>
      obtain ⟨hy1, hy2⟩ := h.yield h1 h2
      split at he
      · rename_i b hb
        have hy := hy1 b hb
        split at he
        · rename_i hw
          have : Region.wanted o (yielded ops a.tmps) = true := by simp [Region.wanted, hgg, hy, hw]
          rw [if_pos this]
          exact .inl (hgo he)
        · rename_i hw
          have : ¬ Region.wanted o (yielded ops a.tmps) = true := by simp [Region.wanted, hgg, hy, hw]
          rw [if_neg this]
          exact hskip hnb he
      · rename_i hb
        have hy := hy2 hb
        have : ¬ Region.wanted o (yielded ops a.tmps) = true := by simp [Region.wanted, hgg, hy]
        rw [if_neg this]
        exact hskip hnb he
      · cases he

/-- What is shown of every way on is so. -/
theorem wp_holds {P : Program} {o : Oper} {X : Prop} (h : o.wp P a w (fun _ _ => X) (fun _ _ _ => False)) : X := by
  unfold Oper.wp at h
  cases hr : (execOp a.eval o).run P w with
  | ok n w' =>
    rw [hr] at h
    cases n <;> simp only [Oper.upon] at h <;> first
      | exact h
      | (obtain ⟨e, w'', fr, hR, _⟩ := h []
         cases e with
         | returned v => exact hR
         | panicked c => exact hR.elim
         | outgrown => obtain ⟨_, _, hh⟩ := hR; exact hh.elim)
      | (obtain ⟨v, w'', hR, _⟩ := h default []; exact hR)
      | exact h.elim
  | halt x w' =>
    rw [hr] at h
    cases x <;> simp only [Oper.upon] at h
theorem wpOp_holds {P : Program} {j : Nat} {X : Prop} (h : wpOp P ops (fun _ _ _ => False) j (fun _ _ => X) a w) : X := by
  unfold wpOp at h
  split at h
  · exact h
  · split at h
    · rcases h with h | ⟨_, _, _, h⟩
      · exact wp_holds h
      · exact h.elim
    · exact h
/-- Some world has this frame and this heap. -/
def Rch (M : SM) (bx : List Nat) (N : Nat) (C0 : Cx) (w0 : World) (L : Nat → Prop) (s : S2) : Prop := ∃ C β a w, St M bx N C0 w0 L C β s.1 s.2 a w
theorem Rch.ppf {s : S2} (h : Rch M bx N C0 w0 L s) : PPf bx s.1 := by
  obtain ⟨C, β, a, w, h⟩ := h
  exact ⟨h.pp, fun n cs hn => (h.box n cs hn).1⟩
theorem Rch.step (hc : CallOK M call) (hf : FnsOk M) {i : AI} {o : Oper} (hi : OpI M bx N ops i o) {s s' : S2} (h : Rch M bx N C0 w0 L s) (he : evI call mt i s.1 s.2 = some s') : Rch M bx N C0 w0 L s' := by
  obtain ⟨C, β, a, w, h⟩ := h
  exact wpOp_holds (step_ok (Q := fun _ _ _ => False) (K := fun _ _ => Rch M bx N C0 w0 L s') hc hf h hi (show evI call mt i s.1 s.2 = some (s'.1, s'.2) from he) (fun C' β' a' w' hst => ⟨C', β', a', w', hst⟩))

theorem seq_ok (hc : CallOK M call) (hf : FnsOk M) : ∀ (is : List AI) (fr : Fr) (G : AG) (C : Cx) (β : Nat → Nat) (a : Act) (w : World) (s : S2), (∀ i ∈ is, ∃ o, OpI M bx N ops i o) → St M bx N C0 w0 L C β fr G a w → evIs call mt is fr G = some s →
    (∀ C' β' a' w', St M bx N C0 w0 L C' β' s.1 s.2 a' w' → Q .normal a' w') → wpOps M.P ops Q (is.map (·.j)) a w := by
  intro is
  induction is with
  | nil => intro fr G C β a w s _ h he hQ; injection he with he; subst he; exact hQ C β a w h
  | cons i is ih =>
    intro fr G C β a w s hi h he hQ
    simp only [evIs, Option.bind_eq_some_iff] at he
    obtain ⟨⟨fr1, G1⟩, h1, h2⟩ := he
    rw [List.map_cons, wpOps_cons]
    obtain ⟨o, ho⟩ := hi i (List.mem_cons_self ..)
    exact step_ok hc hf h ho h1 (fun C' β' a' w' hst => ih fr1 G1 C' β' a' w' s (fun b hb => hi b (List.mem_cons_of_mem _ hb)) hst h2 hQ)

def Dir (ops : Array Oper) (i k : Nat) : Prop := ∃ o, ops[i]? = some o ∧ ∃ e ∈ o.after, Region.binds .any e = true ∧ e.on = k
inductive Deps (ops : Array Oper) : Nat → Nat → Prop
  | one (i k) (h : Dir ops i k) : Deps ops i k
  | step (i k l) (h : Dir ops i k) (h' : Deps ops k l) : Deps ops i l
structure DrawnOk (M : SM) (bx : List Nat) (N : Nat) (ops : Array Oper) (gs : List Grp) : Prop where
  opi : ∀ g ∈ gs, ∃ o, OpI M bx N ops g.1 o
  okg : ∀ g ∈ gs, Okg bx g.1 ∧ (g.1.op.simple = true → g.2 = []) ∧ ∀ a ∈ g.2, Gh a
  len : gs.length = ops.size
  all : ∀ i < ops.size, ∃ g ∈ gs, g.1.j = i
  nodup : gs.Pairwise fun x y => x.1.j ≠ y.1.j
  topo : gs.Pairwise fun x y => ¬ Dir ops x.1.j y.1.j
  self : ∀ g ∈ gs, ¬ Dir ops g.1.j g.1.j
  inn : ∀ i k, Dir ops i k → k < ops.size
  pair : gs.Pairwise fun x y => Deps ops y.1.j x.1.j ∨ (Sw x.1 y.1 ∧ (∀ a ∈ x.2, ∀ t, y.1.dst = some t → OffS a t) ∧ (x.1.op.mem = true → y.1.op.simple = false → ∀ t, x.1.dst = some t → againOf x.1 t ∈ y.2))
  pair2 : gs.Pairwise fun m q => m.1.op.mem = true → q.1.op.simple = true → ∀ t, q.1.dst = some t → OffS m.1 t
theorem deps_listed {listed : Array Bool} (hcl : ∀ i k, i < ops.size → listed.getD i false = true → Dir ops i k → listed.getD k false = true) (hin : ∀ i k, Dir ops i k → k < ops.size) {i k : Nat} (h : Deps ops i k) :
    (∀ k', Dir ops i k' → listed.getD k' false = true) → listed.getD k false = true := by
  induction h with
  | one i k h => exact fun hi => hi k h
  | step i k l h h' ih => exact fun hi => ih (fun k' hk' => hcl k k' (hin i k h) (hi k h) hk')
theorem ready_mem {listed : Array Bool} {i : Nat} : i ∈ Region.ready .any ops listed ↔ i < ops.size ∧ listed.getD i true = false ∧ ∀ k, Dir ops i k → listed.getD k false = true := by
  unfold Region.ready
  rw [List.mem_filter, List.mem_range]
  constructor
  · rintro ⟨h1, h2⟩
    simp only [Bool.and_eq_true, Bool.not_eq_true'] at h2
    refine ⟨h1, h2.1, ?_⟩
    rintro k ⟨o, ho, e, he, hb, rfl⟩
    have h3 := h2.2
    rw [ho] at h3
    simp only [Option.map_some, Option.getD_some, Array.all_eq_true'] at h3
    have := h3 e he
    simpa [hb] using this
  · rintro ⟨h1, h2, h3⟩
    refine ⟨h1, ?_⟩
    simp only [Bool.and_eq_true, Bool.not_eq_true']
    refine ⟨h2, ?_⟩
    have ho : ops[i]? = some ops[i] := Array.getElem?_eq_getElem h1
    rw [ho]
    simp only [Option.map_some, Option.getD_some, Array.all_eq_true']
    intro e he
    cases hb : Region.binds .any e with
    | false => rfl
    | true => simpa using h3 e.on ⟨_, ho, e, he, hb, rfl⟩
theorem getD_two {listed : Array Bool} {i : Nat} (h : i < listed.size) : listed.getD i true = listed.getD i false := by simp [Array.getD, h]
theorem any_ok (hc : CallOK M call) (hf : FnsOk M) {gs : List Grp} (hd : DrawnOk M bx N ops gs) {sf : S2} (hQ : ∀ C' β' a' w', St M bx N C0 w0 L C' β' sf.1 sf.2 a' w' → Q .normal a' w') :
    ∀ (n : Nat) (rem : List Grp) (listed : Array Bool) (s : S2) (C : Cx) (β : Nat → Nat) (a : Act) (w : World), rem.length = n → rem.Sublist gs → listed.size = ops.size →
      (∀ i, i < ops.size → (listed.getD i true = false ↔ ∃ g ∈ rem, g.1.j = i)) → (∀ i k, i < ops.size → listed.getD i false = true → Dir ops i k → listed.getD k false = true) →
      St M bx N C0 w0 L C β s.1 s.2 a w → evL call mt rem s = some sf → wpAny M.P .any ops Q n listed a w := by
  intro n
  induction n with
  | zero =>
    intro rem listed s C β a w hl hsub hsz hls hcl h he
    have : rem = [] := List.length_eq_zero_iff.1 hl
    subst this
    injection he with he
    subst he
    refine ⟨?_, hQ C β a w h⟩
    apply List.eq_nil_iff_forall_not_mem.2
    intro i hi
    obtain ⟨h1, h2, _⟩ := ready_mem.1 hi
    obtain ⟨g, hg, _⟩ := (hls i h1).1 h2
    cases hg
  | succ n ih =>
    intro rem listed s C β a w hl hsub hsz hls hcl h he
    refine ⟨fun hnil => ?_, fun i hi => ?_⟩
    · exfalso
      cases rem with
      | nil => simp at hl
      | cons g0 rest =>
        have hg0 : g0 ∈ gs := hsub.subset (List.mem_cons_self ..)
        obtain ⟨o, ho⟩ := hd.opi g0 hg0
        have hlt : g0.1.j < ops.size := (Array.getElem?_eq_some_iff.1 ho.at_).1
        have hmem : g0.1.j ∈ Region.ready .any ops listed := by
          refine ready_mem.2 ⟨hlt, (hls _ hlt).2 ⟨g0, List.mem_cons_self .., rfl⟩, fun k hk => ?_⟩
          have hk' := hd.inn _ k hk
          rw [← getD_two (by rw [hsz]; exact hk')]
          cases hkl : listed.getD k true with
          | true => rfl
          | false =>
            exfalso
            obtain ⟨g, hg, rfl⟩ := (hls k hk').1 hkl
            rcases List.mem_cons.1 hg with rfl | hg
            · exact hd.self _ hg0 hk
            · exact (List.pairwise_cons.1 (hd.topo.sublist hsub)).1 g hg hk
        rw [hnil] at hmem
        cases hmem
    · obtain ⟨hilt, hil, hdir⟩ := ready_mem.1 hi
      obtain ⟨g, hg, rfl⟩ := (hls i hilt).1 hil
      obtain ⟨pre, post, rfl⟩ := List.append_of_mem hg
      have hggs : g ∈ gs := hsub.subset hg
      obtain ⟨o, ho⟩ := hd.opi g hggs
      have hpre : ∀ m ∈ pre, m ∈ gs := fun m hm => hsub.subset (List.mem_append_left _ hm)
      have hpr := (List.pairwise_append.1 (hd.pair.sublist hsub)).2.2
      have hsw : ∀ m ∈ pre, Sw m.1 g.1 ∧ (∀ a ∈ m.2, ∀ t, g.1.dst = some t → OffS a t) ∧ (m.1.op.mem = true → g.1.op.simple = false → ∀ t, m.1.dst = some t → againOf m.1 t ∈ g.2) := by
        intro m hm
        rcases hpr m hm g (List.mem_cons_self ..) with h1 | h1
        · exfalso
          have h2 := deps_listed hcl hd.inn h1 hdir
          obtain ⟨om, hom⟩ := hd.opi m (hpre m hm)
          have hmlt : m.1.j < ops.size := (Array.getElem?_eq_some_iff.1 hom.at_).1
          have h3 := (hls m.1.j hmlt).2 ⟨m, List.mem_append_left _ hm, rfl⟩
          rw [getD_two (by rw [hsz]; exact hmlt)] at h3
          rw [h3] at h2
          cases h2
        · exact h1
      have hbub : Bub bx (Rch M bx N C0 w0 L) call mt pre g.1 := by
        refine ⟨(hd.okg g hggs).1, fun m hm => hd.okg m (hpre m hm), fun m hm => ⟨(hsw m hm).1, (hsw m hm).2.1⟩, (List.pairwise_append.1 (hd.pair2.sublist hsub)).1, fun s hs => hs.ppf, fun m hm s s' hs hes => ?_, fun s s' hs hes => hs.step hc hf ho hes⟩
        obtain ⟨om, hom⟩ := hd.opi m (hpre m hm)
        exact hs.step hc hf hom hes
      rw [evL_append] at he
      simp only [Option.bind_eq_some_iff] at he
      obtain ⟨s1, h1, he⟩ := he
      simp only [evL, Option.bind_eq_some_iff] at he
      obtain ⟨s2, h2, h3⟩ := he
      obtain ⟨h2a, h2b⟩ := evP_some.1 h2
      obtain ⟨s', h4, h5⟩ := bubble pre.length pre s s1 s2 rfl hbub h1 h2a (fun hp m hm hmm t ht => h2b _ ((hsw m hm).2.2 hmm hp t ht)) ⟨C, β, a, w, h⟩
      have hgsz : g.1.j < listed.size := by rw [hsz]; exact hilt
      have hset : ∀ (k : Nat) (d : Bool), (listed.setIfInBounds g.1.j true).getD k d = if k = g.1.j then true else listed.getD k d := by
        intro k d
        by_cases e : k = g.1.j
        · subst e; simp [Array.getD, hgsz]
        · simp [Array.getD_eq_getD_getElem?, Array.getElem?_setIfInBounds, Ne.symm e, e]
      have hnd := List.pairwise_append.1 (hd.nodup.sublist hsub)
      refine step_ok hc hf h ho (show evI call mt g.1 s.1 s.2 = some (s'.1, s'.2) from h4) (fun C' β' a' w' hst => ih (pre ++ post) _ s' C' β' a' w' ?_ ?_ ?_ ?_ ?_ hst ?_)
      · simp at hl ⊢; omega
      · exact ((List.Sublist.refl pre).append (List.sublist_cons_self g post)).trans hsub
      · simp [hsz]
      · intro k hk
        rw [hset]
        by_cases e : k = g.1.j
        · subst e
          simp only [if_true, Bool.true_eq_false, false_iff]
          rintro ⟨m, hm, hmj⟩
          rcases List.mem_append.1 hm with hm | hm
          · exact hnd.2.2 m hm g (List.mem_cons_self ..) hmj
          · exact (List.pairwise_cons.1 hnd.2.1).1 m hm hmj.symm
        · rw [if_neg e, hls k hk]
          constructor
          · rintro ⟨m, hm, hmj⟩
            refine ⟨m, ?_, hmj⟩
            rcases List.mem_append.1 hm with hm | hm
            · exact List.mem_append_left _ hm
            · rcases List.mem_cons.1 hm with rfl | hm
              · exact absurd hmj.symm e
              · exact List.mem_append_right _ hm
          · rintro ⟨m, hm, hmj⟩
            refine ⟨m, ?_, hmj⟩
            rcases List.mem_append.1 hm with hm | hm
            · exact List.mem_append_left _ hm
            · exact List.mem_append_right _ (List.mem_cons_of_mem _ hm)
      · intro i' k hi' hil' hdk
        rw [hset] at hil' ⊢
        by_cases ek : k = g.1.j
        · rw [if_pos ek]
        · rw [if_neg ek]
          by_cases e : i' = g.1.j
          · subst e; exact hdir k hdk
          · rw [if_neg e] at hil'; exact hcl i' k hi' hil' hdk
      · rw [evL_append, h5]; exact h3
end
end Go.Ai
