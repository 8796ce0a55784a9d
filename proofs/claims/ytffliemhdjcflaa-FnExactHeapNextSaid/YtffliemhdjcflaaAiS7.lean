/- Worlds that change: a step of the heap, a struct variable of the frame. -/
import Derived.Test.YtffliemhdjcflaaAiS6
set_option linter.unusedVariables false
set_option linter.unusedSimpArgs false
namespace Go.Ai
variable {M : SM}
section
variable {bx : List Nat} {N : Nat} {C0 : Cx} {w0 : World} {L : Nat → Prop} {C C' : Cx} {β : Nat → Nat} {fr : Fr} {G G' : AG} {a : Act} {w w' : World}

theorem heap_new (w : World) (o : Obj) : (w.alloc o).heap[w.heap.size]? = some o := by
  show (w.heap.push o)[w.heap.size]? = _
  simp
theorem heap_size (w : World) (o : Obj) : (w.alloc o).heap.size = w.heap.size + 1 := by
  show (w.heap.push o).size = _
  simp
theorem heap_old (w : World) (o : Obj) {b : Nat} {x : Obj} (h : w.heap[b]? = some x) : (w.alloc o).heap[b]? = some x := by
  rw [RowKit.Below.heap_alloc w o b (Array.getElem?_eq_some_iff.1 h).1]; exact h

theorem St.step (h : St M bx N C0 w0 L C β fr G a w) (hle : C.le C') (hgr : GR M C' G' w') (hun : Un w w' (live C G)) (hl : ∀ b, live C' G' b → live C G b ∨ w.heap.size ≤ b)
    (him : ∀ b arr, C'.im b = some arr → C.im b = some arr ∨ live C G b ∨ w.heap.size ≤ b) : St M bx N C0 w0 L C' β fr G' a w' := by
  have hw : w0.heap.size ≤ w.heap.size := h.un.size
  refine ⟨h.le.trans hle, h.un.trans hun (fun b hb => h.mine b hb), hgr, fun b hb => ?_, h.size, h.defers, fun t => ?_, fun t cs ht => ?_, h.apart, h.pp, fun b arr hb => ?_⟩
  · rcases hl b hb with h1 | h1
    · exact h.mine b h1
    · right; omega
  · have := h.slot t
    unfold SlotR at *
    split <;> simp_all
    all_goals exact VR.mono hle this
  · obtain ⟨h1, h2, ⟨cur, ty, h3, h4, h5⟩, h6, h7⟩ := h.box t cs ht
    have hlt : β t < w.heap.size := (Array.getElem?_eq_some_iff.1 h3).1
    refine ⟨h1, h2, ⟨cur, ty, by rw [hun.blk _ hlt h6]; exact h3, h4, h5.mono hle⟩, fun hb => ?_, ?_⟩
    · rcases hl _ hb with h8 | h8
      · exact h6 h8
      · omega
    · cases hi : C'.im (β t) with
      | none => rfl
      | some arr =>
        rcases him _ arr hi with h8 | h8 | h8
        · rw [h7] at h8; cases h8
        · exact absurd h8 h6
        · omega
  · rcases him b arr hb with h1 | h1 | h1
    · exact h.ims b arr h1
    · exact .inr (h.mine b h1)
    · right; right; omega

/-- A new object in a new block. -/
def newC (C : Cx) (id : Nat) (o : OI) : Cx := ⟨id + 1, fun i => if i = id then o else C.io i, C.im⟩
theorem newC_le {id : Nat} {o : OI} (hn : C.n = id) : C.le (newC C id o) := ⟨by rw [hn]; exact Nat.le_succ _, fun i hi => by simp only [newC]; rw [if_neg (by omega)], fun b arr hb => hb⟩
theorem GR.add (h : GR M C G w) {o : OI} {es : Obj'} {w' : World} {G1 : Heap'} (hG1 : ∀ id es', G1 id = some es' → G.obj id = some es') (hgood : ∀ id es', G1 id = some es' → (C.io id).blk ≠ o.blk) (himg : ∀ arr, C.im o.blk ≠ some arr)
    (hold : ∀ b, b < w.heap.size → b ≠ o.blk → w'.heap[b]? = w.heap[b]?)
    (hnew : ∃ cur ty, w'.heap[o.blk]? = some (.cells cur ty (0, 0)) ∧ ObR M (newC C G.next o) o es cur) : GR M (newC C G.next o) ⟨G.next + 1, updO G1 G.next (some es)⟩ w' := by
  have hle : C.le (newC C G.next o) := newC_le h.n
  have hio : ∀ id, id < G.next → (newC C G.next o).io id = C.io id := fun id hid => by simp only [newC]; rw [if_neg (by omega)]
  have hcase : ∀ id es', updO G1 G.next (some es) id = some es' → (id = G.next ∧ es' = es) ∨ (id < G.next ∧ G1 id = some es') := by
    intro id es' hid
    simp only [updO] at hid
    split at hid
    · rename_i e; injection hid with hid; exact .inl ⟨e, hid.symm⟩
    · exact .inr ⟨(h.ob id es' (hG1 id es' hid)).1, hid⟩
  have hself : (newC C G.next o).io G.next = o := by simp [newC]
  refine ⟨rfl, fun id es' hid => ?_, fun id id' es1 es2 h1 h2 hne => ?_, fun b arr hb => ?_⟩
  · rcases hcase id es' hid with ⟨rfl, rfl⟩ | ⟨hlt, hid'⟩
    · refine ⟨Nat.lt_succ_self _, ?_⟩
      rw [hself]; exact hnew
    · obtain ⟨_, cur, ty, h3, h4⟩ := h.ob id es' (hG1 id es' hid')
      refine ⟨Nat.lt_succ_of_lt hlt, cur, ty, ?_, ?_⟩
      · rw [hio id hlt, hold _ (Array.getElem?_eq_some_iff.1 h3).1 (hgood id es' hid')]; exact h3
      · rw [hio id hlt]; exact h4.mono hle
  · rcases hcase id es1 h1 with ⟨rfl, rfl⟩ | ⟨hlt, hid'⟩ <;> rcases hcase id' es2 h2 with ⟨rfl, rfl⟩ | ⟨hlt', hid''⟩
    · exact absurd rfl hne
    · rw [hself, hio id' hlt']; exact fun e => hgood id' es2 hid'' e.symm
    · rw [hself, hio id hlt]; exact fun e => hgood id es1 hid' e
    · rw [hio id hlt, hio id' hlt']; exact h.inj id id' es1 es2 (hG1 _ _ hid') (hG1 _ _ hid'') hne
  · have hb' : C.im b = some arr := hb
    obtain ⟨⟨ty, f, h3⟩, h4⟩ := h.im b arr hb'
    have hbo : b ≠ o.blk := by rintro rfl; exact himg arr hb'
    refine ⟨⟨ty, f, by rw [hold b (Array.getElem?_eq_some_iff.1 h3).1 hbo]; exact h3⟩, fun id es' hid => ?_⟩
    rcases hcase id es' hid with ⟨rfl, rfl⟩ | ⟨hlt, hid'⟩
    · rw [hself]; exact fun e => hbo e.symm
    · rw [hio id hlt]; exact h4 id es' (hG1 id es' hid')
theorem live_add {o : OI} {es : Obj'} {G1 : Heap'} (h : GR M C G w) (hG1 : ∀ id es', G1 id = some es' → G.obj id = some es') {b : Nat} (hb : live (newC C G.next o) ⟨G.next + 1, updO G1 G.next (some es)⟩ b) : live C G b ∨ b = o.blk := by
  obtain ⟨id, es', hid, rfl⟩ := hb
  simp only [updO] at hid
  split at hid
  · rename_i e; subst e; right; simp [newC]
  · rename_i e
    left
    exact ⟨id, es', hG1 id es' hid, by simp only [newC]; rw [if_neg e]⟩
/-- A new object in a block that is made for it. -/
theorem St.new (h : St M bx N C0 w0 L C β fr G a w) {esz cap : Nat} {es : Obj'} {cur : Array Value} {ty : TypeId} (ho : ObR M C ⟨w.heap.size, esz, cap⟩ es cur) :
    St M bx N C0 w0 L (newC C G.next ⟨w.heap.size, esz, cap⟩) β fr ⟨G.next + 1, updO G.obj G.next (some es)⟩ a (w.alloc (.cells cur ty)) ∧ C.le (newC C G.next ⟨w.heap.size, esz, cap⟩) := by
  have hle : C.le (newC C G.next ⟨w.heap.size, esz, cap⟩) := newC_le h.gr.n
  refine ⟨h.step hle ?_ (Un.alloc w _ _ _) (fun b hb => ?_) (fun b arr hb => .inl hb), hle⟩
  · refine h.gr.add (fun _ _ hh => hh) (fun id es' hid e => ?_) (fun arr hb => ?_) (fun b hb _ => RowKit.Below.heap_alloc w _ b hb) ⟨cur, ty, heap_new w _, ho.mono hle⟩
    · have := h.gr.lt ⟨id, es', hid, rfl⟩
      have e' : (C.io id).blk = w.heap.size := e
      omega
    · have := h.gr.imlt hb
      have e' : w.heap.size < w.heap.size := this
      omega
  · rcases live_add h.gr (fun _ _ hh => hh) hb with h1 | h1
    · exact .inl h1
    · right; rw [h1]; exact Nat.le_refl _
/-- An object's content is turned. -/
theorem GR.set (h : GR M C G w) {id : Nat} {es es' : Obj'} {cur cur' : Array Value} {ty : TypeId} (hid : G.obj id = some es) (hb : w.heap[(C.io id).blk]? = some (.cells cur ty (0, 0))) (ho : ObR M C (C.io id) es' cur') :
    GR M C ⟨G.next, updO G.obj id (some es')⟩ (w.setRow (C.io id).blk cur') := by
  have hcase : ∀ i e, updO G.obj id (some es') i = some e → (i = id ∧ e = es') ∨ (i ≠ id ∧ G.obj i = some e) := by
    intro i e hi
    simp only [updO] at hi
    split at hi
    · rename_i e1; injection hi with hi; exact .inl ⟨e1, hi.symm⟩
    · rename_i e1; exact .inr ⟨e1, hi⟩
  have hblk : ∀ i e, updO G.obj id (some es') i = some e → ∃ e0, G.obj i = some e0 := by
    intro i e hi
    rcases hcase i e hi with ⟨rfl, _⟩ | ⟨_, h1⟩
    · exact ⟨es, hid⟩
    · exact ⟨e, h1⟩
  refine ⟨h.n, fun i e hi => ?_, fun i i' e e' h1 h2 hne => ?_, fun b arr hb' => ?_⟩
  · rcases hcase i e hi with ⟨rfl, rfl⟩ | ⟨hne, h1⟩
    · exact ⟨(h.ob i es hid).1, cur', ty, setRow_heap w _ cur cur' ty (0, 0) hb, ho⟩
    · obtain ⟨h2, c2, t2, h3, h4⟩ := h.ob i e h1
      exact ⟨h2, c2, t2, by rw [setRow_other w _ _ cur' (h.inj i id e es h1 hid hne)]; exact h3, h4⟩
  · obtain ⟨e1, h3⟩ := hblk i e h1
    obtain ⟨e2, h4⟩ := hblk i' e' h2
    exact h.inj i i' e1 e2 h3 h4 hne
  · obtain ⟨⟨t2, f2, h3⟩, h4⟩ := h.im b arr hb'
    refine ⟨⟨t2, f2, by rw [setRow_other w _ _ cur' (h4 id es hid).symm]; exact h3⟩, fun i e hi => ?_⟩
    obtain ⟨e0, h5⟩ := hblk i e hi
    exact h4 i e0 h5
theorem St.set (h : St M bx N C0 w0 L C β fr G a w) {id : Nat} {es es' : Obj'} {cur cur' : Array Value} {ty : TypeId} (hid : G.obj id = some es) (hb : w.heap[(C.io id).blk]? = some (.cells cur ty (0, 0))) (ho : ObR M C (C.io id) es' cur') :
    St M bx N C0 w0 L C β fr ⟨G.next, updO G.obj id (some es')⟩ a (w.setRow (C.io id).blk cur') := by
  refine h.step (Cx.le.refl C) (h.gr.set hid hb ho) (Un.setRow w _ _ _ ⟨id, es, hid, rfl⟩) (fun b hbl => .inl ?_) (fun b arr hb => .inl hb)
  obtain ⟨i, e, hi, rfl⟩ := hbl
  simp only [updO] at hi
  split at hi
  · rename_i e1; subst e1; exact ⟨i, es, hid, rfl⟩
  · exact ⟨i, e, hi, rfl⟩
/-- An object is left behind. -/
theorem GR.del (h : GR M C G w) (id : Nat) : GR M C ⟨G.next, updO G.obj id none⟩ w := by
  have hsub : ∀ i e, updO G.obj id none i = some e → G.obj i = some e := by
    intro i e hi
    simp only [updO] at hi
    split at hi
    · cases hi
    · exact hi
  exact ⟨h.n, fun i e hi => h.ob i e (hsub i e hi), fun i i' e e' h1 h2 hne => h.inj i i' e e' (hsub _ _ h1) (hsub _ _ h2) hne, fun b arr hb => ⟨(h.im b arr hb).1, fun i e hi => (h.im b arr hb).2 i e (hsub i e hi)⟩⟩
theorem live_del {id : Nat} {b : Nat} (hb : live C ⟨G.next, updO G.obj id none⟩ b) : live C G b := by
  obtain ⟨i, e, hi, rfl⟩ := hb
  simp only [updO] at hi
  split at hi
  · cases hi
  · exact ⟨i, e, hi, rfl⟩
theorem St.del (h : St M bx N C0 w0 L C β fr G a w) (id : Nat) : St M bx N C0 w0 L C β fr ⟨G.next, updO G.obj id none⟩ a w :=
  h.step (Cx.le.refl C) (h.gr.del id) (Un.refl w _) (fun b hb => .inl (live_del hb)) (fun b arr hb => .inl hb)
/-- A read only row in a new block. -/
def immC (C : Cx) (b : Nat) (arr : Array Value) : Cx := ⟨C.n, C.io, fun i => if i = b then some arr else C.im i⟩
theorem St.imm (h : St M bx N C0 w0 L C β fr G a w) {arr : Array Value} {ty : TypeId} :
    St M bx N C0 w0 L (immC C w.heap.size arr) β fr G a (w.alloc (.cells arr ty)) ∧ C.le (immC C w.heap.size arr) := by
  have hle : C.le (immC C w.heap.size arr) := ⟨Nat.le_refl _, fun _ _ => rfl, fun b x hb => by
    simp only [immC]
    rw [if_neg]; exact hb
    rintro rfl
    have := h.gr.imlt hb
    omega⟩
  refine ⟨h.step hle ⟨h.gr.n, fun id es hid => ?_, h.gr.inj, fun b x hb => ?_⟩ (Un.alloc w _ _ _) (fun b hb => .inl hb) (fun b x hb => ?_), hle⟩
  · obtain ⟨h1, cur, t, h2, h3⟩ := h.gr.ob id es hid
    exact ⟨h1, cur, t, heap_old w _ h2, h3.mono hle⟩
  · simp only [immC] at hb
    split at hb
    · rename_i e
      injection hb with hb
      subst hb e
      refine ⟨⟨ty, (0, 0), heap_new w _⟩, fun id es hid e => ?_⟩
      have e' : (C.io id).blk = w.heap.size := e
      have := h.gr.lt ⟨id, es, hid, rfl⟩
      omega
    · obtain ⟨⟨t, f, h2⟩, h3⟩ := h.gr.im b x hb
      exact ⟨⟨t, f, heap_old w _ h2⟩, h3⟩
  · simp only [immC] at hb
    split at hb
    · rename_i e; right; right; omega
    · exact .inl hb
theorem St.drew (h : St M bx N C0 w0 L C β fr G a w) : St M bx N C0 w0 L C β fr G a { w with drawn := w.drawn + 1 } :=
  h.step (Cx.le.refl C) ⟨h.gr.n, h.gr.ob, h.gr.inj, h.gr.im⟩ (Un.drew w _) (fun b hb => .inl hb) (fun b arr hb => .inl hb)

/-- A struct variable of the frame is made. -/
theorem St.box_new (h : St M bx N C0 w0 L C β fr G a w) {d : Nat} (hd : d < N) (hdb : d ∈ bx) (hu : fr d = .undef) {cs : List AVal} {cur : Array Value} {ty : TypeId} (hs : cur.size = cs.length) (hc : CsR M C cs cur 0) :
    St M bx N C0 w0 L C (fun t => if t = d then w.heap.size else β t) (upd fr d (.pbox cs)) G (a.put (some d) (.pointer (some ⟨w.heap.size, 0, none⟩))) (w.alloc (.cells cur ty)) := by
  have h1 := h.step (G' := G) (w' := w.alloc (.cells cur ty)) (Cx.le.refl C) ⟨h.gr.n, fun id es hid => ?_, h.gr.inj, fun b arr hb => ?_⟩ (Un.alloc w _ _ _) (fun b hb => .inl hb) (fun b arr hb => .inl hb)
  · have hfr : ∀ t, t ≠ d → upd fr d (.pbox cs) t = fr t := fun t ht => by simp only [upd]; rw [if_neg ht]
    have hfd : upd fr d (.pbox cs) d = .pbox cs := by simp [upd]
    have hpn : ∀ t c, fr t ≠ .pptr d c := fun t c e => (h.pp t d c e).2 hu
    have hlt : ∀ t cs', fr t = .pbox cs' → β t < w.heap.size := fun t cs' ht => by
      obtain ⟨_, _, ⟨cur, ty, h3, _⟩, _⟩ := h.box t cs' ht
      exact (Array.getElem?_eq_some_iff.1 h3).1
    refine ⟨h1.le, h1.un, h1.gr, h1.mine, by simpa [Act.put] using h1.size, h1.defers, fun t => ?_, fun t cs' ht => ?_, fun t t' cs1 cs2 ht ht' hne => ?_, fun t e c ht => ?_, h1.ims⟩
    · by_cases ht : t = d
      · subst ht
        rw [hfd]
        have hg : (a.put (some t) (.pointer (some ⟨w.heap.size, 0, none⟩))).tmps.getD t undef = .pointer (some ⟨w.heap.size, 0, none⟩) := by simp [Act.put, h.size, hd]
        rw [hg]
        simp [SlotR]
      · rw [hfr t ht]
        have hg : (a.put (some d) (.pointer (some ⟨w.heap.size, 0, none⟩))).tmps.getD t undef = a.tmps.getD t undef := by simp [Act.put, Ne.symm ht]
        rw [hg]
        have := h1.slot t
        unfold SlotR at this ⊢
        split <;> simp_all
        rename_i e c hh
        intro e'
        subst e'
        exact absurd hh (hpn t c)
    · by_cases ht2 : t = d
      · subst ht2
        rw [hfd] at ht
        injection ht with ht
        subst ht
        refine ⟨hdb, ?_, ⟨cur, ty, ?_, hs, hc⟩, ?_, ?_⟩
        · simp only [if_true]; exact h.un.size
        · simp only [if_true]; exact heap_new w _
        · simp only [if_true]
          intro hl
          have := h.gr.lt hl
          omega
        · simp only [if_true]
          cases hi : C.im w.heap.size with
          | none => rfl
          | some arr => have := h.gr.imlt hi; omega
      · rw [hfr t ht2] at ht
        simp only [if_neg ht2]
        exact h1.box t cs' ht
    · by_cases e1 : t = d <;> by_cases e2 : t' = d
      · exact absurd (e1.trans e2.symm) hne
      · subst e1
        rw [hfr t' e2] at ht'
        simp only [if_true, if_neg e2]
        have := hlt t' _ ht'
        omega
      · subst e2
        rw [hfr t e1] at ht
        simp only [if_true, if_neg e1]
        have := hlt t _ ht
        omega
      · rw [hfr t e1] at ht
        rw [hfr t' e2] at ht'
        simp only [if_neg e1, if_neg e2]
        exact h1.apart t t' _ _ ht ht' hne
    · by_cases ht2 : t = d
      · subst ht2; rw [hfd] at ht; cases ht
      · rw [hfr t ht2] at ht
        refine ⟨(h1.pp t e c ht).1, ?_⟩
        by_cases e2 : e = d
        · subst e2; rw [hfd]; simp
        · rw [hfr e e2]; exact (h1.pp t e c ht).2
  · obtain ⟨h2, cur', t, h3, h4⟩ := h.gr.ob id es hid
    exact ⟨h2, cur', t, heap_old w _ h3, h4⟩
  · obtain ⟨⟨t, f, h3⟩, h4⟩ := h.gr.im b arr hb
    exact ⟨⟨t, f, heap_old w _ h3⟩, h4⟩
/-- A struct variable of the frame is written. -/
theorem St.box_set (h : St M bx N C0 w0 L C β fr G a w) {d : Nat} {cs cs' : List AVal} {cur' : Array Value} (hd : fr d = .pbox cs) (hs : cur'.size = cs'.length) (hc : CsR M C cs' cur' 0) :
    St M bx N C0 w0 L C β (upd fr d (.pbox cs')) G a (w.setRow (β d) cur') := by
  obtain ⟨h1, h2, ⟨cur, ty, h3, h4, h5⟩, h6, h7⟩ := h.box d cs hd
  have hfr : ∀ t, t ≠ d → upd fr d (.pbox cs') t = fr t := fun t ht => by simp only [upd]; rw [if_neg ht]
  have hfd : upd fr d (.pbox cs') d = .pbox cs' := by simp [upd]
  have hun : Un w0 (w.setRow (β d) cur') L := h.un.trans (Un.setRow w (β d) cur' (fun b => b = β d) rfl) (fun b hb => by right; rw [hb]; exact h2)
  refine ⟨h.le, hun, ⟨h.gr.n, fun id es hid => ?_, h.gr.inj, fun b arr hb => ?_⟩, h.mine, h.size, h.defers, fun t => ?_, fun t cs1 ht => ?_, fun t t' cs1 cs2 ht ht' hne => ?_, fun t e c ht => ?_, h.ims⟩
  · obtain ⟨i1, c1, t1, i2, i3⟩ := h.gr.ob id es hid
    exact ⟨i1, c1, t1, by rw [setRow_other w _ _ _ (fun e => h6 ⟨id, es, hid, e⟩)]; exact i2, i3⟩
  · obtain ⟨⟨t1, f1, i1⟩, i2⟩ := h.gr.im b arr hb
    exact ⟨⟨t1, f1, by rw [setRow_other w _ _ _ (fun e => by rw [e] at hb; rw [h7] at hb; cases hb)]; exact i1⟩, i2⟩
  · have := h.slot t
    by_cases ht : t = d
    · subst ht
      rw [hd] at this
      rw [hfd]; exact this
    · rw [hfr t ht]; exact this
  · by_cases ht2 : t = d
    · subst ht2
      rw [hfd] at ht
      injection ht with ht
      subst ht
      exact ⟨h1, h2, ⟨cur', ty, setRow_heap w _ cur cur' ty (0, 0) h3, hs, hc⟩, h6, h7⟩
    · rw [hfr t ht2] at ht
      obtain ⟨i1, i2, ⟨c3, t3, i3, i4, i5⟩, i6, i7⟩ := h.box t cs1 ht
      exact ⟨i1, i2, ⟨c3, t3, by rw [setRow_other w _ _ _ (h.apart t d _ _ ht hd ht2)]; exact i3, i4, i5⟩, i6, i7⟩
  · by_cases e1 : t = d
    · subst e1
      rw [hfr t' (Ne.symm hne)] at ht'
      exact h.apart t t' _ _ hd ht' hne
    · rw [hfr t e1] at ht
      by_cases e2 : t' = d
      · subst e2; exact h.apart t t' _ _ ht hd hne
      · rw [hfr t' e2] at ht'; exact h.apart t t' _ _ ht ht' hne
  · by_cases ht2 : t = d
    · subst ht2; rw [hfd] at ht; cases ht
    · rw [hfr t ht2] at ht
      refine ⟨(h.pp t e c ht).1, ?_⟩
      by_cases e2 : e = d
      · subst e2; rw [hfd]; simp
      · rw [hfr e e2]; exact (h.pp t e c ht).2
end
end Go.Ai
