/- A heap that is ok, as a chain of calls; plain data, no program in sight. A heap is ok just if it is such a chain. A step leaves a heap ok. A step leaves a heap ok: the way back, calls, and all operations. -/
import Derived.Test.YtffliemhdjcflaaD1
set_option linter.unusedSimpArgs false
set_option linter.unusedVariables false
namespace Go.Ai
/-- From a call on, by who called: the calls that wait. -/
inductive Up (calls : List GCall) : Int → List Int → Prop
  | nil {x : Int} (h : x < 0) : Up calls x []
  | cons {x : Int} {c : GCall} {l : List Int} (h0 : 0 ≤ x) (hc : calls[x.toNat]? = some c) (hd : c.dead = false) (ht : Up calls c.sender l) : Up calls x (x :: l)
theorem Up.uniq {calls : List GCall} {x : Int} {l l' : List Int} (h : Up calls x l) (h' : Up calls x l') : l = l' := by
  induction h generalizing l' with
  | nil h => cases h' with
    | nil => rfl
    | cons h0 => omega
  | cons h0 hc hd ht ih => cases h' with
    | nil h => omega
    | cons h0' hc' hd' ht' =>
      rw [hc] at hc'
      injection hc' with e
      subst e
      rw [ih ht']
theorem Up.mem {calls : List GCall} {x : Int} {l : List Int} (h : Up calls x l) : ∀ y ∈ l, 0 ≤ y ∧ ∃ c, calls[y.toNat]? = some c ∧ c.dead = false := by
  induction h with
  | nil h => intro y hy; cases hy
  | cons h0 hc hd ht ih =>
    intro y hy
    rcases List.mem_cons.1 hy with rfl | hy
    · exact ⟨h0, _, hc, hd⟩
    · exact ih y hy
/-- Each call of the chain has a chain of its own, the rest. -/
theorem Up.split {calls : List GCall} {x y : Int} {l : List Int} (h : Up calls x l) (hy : y ∈ l) : ∃ l1 l2, l = l1 ++ l2 ∧ Up calls y l2 := by
  induction h with
  | nil h => cases hy
  | @cons x c l h0 hc hd ht ih =>
    rcases List.mem_cons.1 hy with rfl | hy
    · exact ⟨[], _, rfl, .cons h0 hc hd ht⟩
    · obtain ⟨l1, l2, e, hu⟩ := ih hy
      exact ⟨x :: l1, l2, by rw [e]; rfl, hu⟩
theorem Up.nodup {calls : List GCall} {x : Int} {l : List Int} (h : Up calls x l) : l.Nodup := by
  induction h with
  | nil h => exact List.nodup_nil
  | @cons x c l h0 hc hd ht ih =>
    refine List.nodup_cons.2 ⟨fun hm => ?_, ih⟩
    obtain ⟨l1, l2, e, hu⟩ := ht.split hm
    have := (Up.cons h0 hc hd ht).uniq hu
    have h2 := congrArg List.length this
    rw [e] at h2
    simp at h2
    omega
theorem Up.frame {calls calls' : List GCall} {x : Int} {l : List Int} (h : Up calls x l) (hs : ∀ y ∈ l, ∀ c, calls[y.toNat]? = some c → c.dead = false → ∃ c', calls'[y.toNat]? = some c' ∧ c'.dead = false ∧ c'.sender = c.sender) : Up calls' x l := by
  induction h with
  | nil h => exact .nil h
  | cons h0 hc hd ht ih =>
    obtain ⟨c', h1, h2, h3⟩ := hs _ (List.mem_cons_self ..) _ hc hd
    exact .cons h0 h1 h2 (by rw [h3]; exact ih fun y hy => hs y (List.mem_cons_of_mem _ hy))
theorem up_chainO {calls : List GCall} : ∀ {f : Nat} {x : Int} {l : List Int}, chainO calls f x = some l ↔ Up calls x l ∧ l.length ≤ f := by
  intro f
  induction f with
  | zero =>
    intro x l
    simp only [chainO]
    constructor
    · intro h
      split at h
      · rename_i hx; injection h with h; subst h; exact ⟨.nil hx, Nat.le_refl _⟩
      · cases h
    · rintro ⟨h, hl⟩
      cases h with
      | nil h => rw [if_pos h]
      | cons => simp at hl
  | succ f ih =>
    intro x l
    simp only [chainO]
    constructor
    · intro h
      split at h
      · rename_i hx; injection h with h; subst h; exact ⟨.nil hx, by simp⟩
      · rename_i hx
        split at h
        · cases h
        · split at h
          · rename_i c hc
            split at h
            · cases h
            · rename_i hd
              simp only [Option.map_eq_some_iff] at h
              obtain ⟨l', h', rfl⟩ := h
              obtain ⟨h1, h2⟩ := ih.1 h'
              exact ⟨.cons (by omega) hc (by simpa using hd) h1, by simp; omega⟩
          · cases h
    · rintro ⟨h, hl⟩
      cases h with
      | nil h => rw [if_pos h]
      | cons h0 hc hd ht =>
        have := (List.getElem?_eq_some_iff.1 hc).1
        rw [if_neg (by omega), if_neg (by omega)]
        simp only [hc, hd, Bool.false_eq_true, if_false]
        rw [ih.2 ⟨ht, by simpa using hl⟩]; rfl
/-- A heap of a program that is ok; l the calls that wait. -/
structure WF (p : GProg) (h : GHeap) (l : List Int) : Prop where
  prog : progOk p = true
  now : -1 ≤ h.now
  born : 1 ≤ h.born ∧ h.born ≤ 30
  len : (h.calls.length : Int) ≤ h.born
  code : 0 ≤ h.code ∧ h.code ≤ 3
  said : ∀ v ∈ h.said, saidOk p v = true
  ends : h.code = 1 ↔ h.now < 0
  form : ∀ c ∈ h.calls, formOk p c h.calls.length = true
  up : Up h.calls h.now l
  al : ∀ (i : Nat) c, h.calls[i]? = some c → c.dead = false → (i : Int) ∈ l
  wait : ∀ x ∈ l.drop 1, ∀ c, h.calls[x.toNat]? = some c → c.stack.length < 6
theorem up_lt {calls : List GCall} {x : Int} {l : List Int} (h : Up calls x l) : ∀ y ∈ l, 0 ≤ y ∧ y < calls.length := by
  intro y hy
  obtain ⟨h0, c, hc, _⟩ := h.mem y hy
  have := (List.getElem?_eq_some_iff.1 hc).1
  omega
/-- As many as the calls that have not returned: those. -/
theorem live_idx (calls : List GCall) : (calls.filter (fun c => !c.dead)).length = ((List.range calls.length).filter (fun i => match calls[i]? with | some c => !c.dead | none => false)).length := by
  induction calls with
  | nil => rfl
  | cons c cs ih =>
    rw [List.length_cons, List.range_succ_eq_map, List.filter_cons, List.filter_cons, List.filter_map, List.getElem?_cons_zero]
    have h2 : ((fun i => match (c :: cs)[i]? with | some c => !c.dead | none => false) ∘ Nat.succ) = (fun i => match cs[i]? with | some c => !c.dead | none => false) := by
      funext i; simp [Function.comp]
    rw [h2]
    split
    · rw [List.length_cons, List.length_cons, ih]; simp
    · rw [ih]; simp
theorem nodup_len : ∀ {l m : List Nat}, l.Nodup → (∀ x ∈ l, x ∈ m) → l.length ≤ m.length := by
  intro l
  induction l with
  | nil => intro m _ _; simp
  | cons x l ih =>
    intro m hn hs
    rw [List.nodup_cons] at hn
    have hx : x ∈ m := hs x (List.mem_cons_self ..)
    have h1 := ih (m := m.erase x) hn.2 (fun y hy => by
      have hne : y ≠ x := by rintro rfl; exact hn.1 hy
      exact (List.mem_erase_of_ne hne).2 (hs y (List.mem_cons_of_mem _ hy)))
    rw [List.length_erase_of_mem hx] at h1
    have : 0 < m.length := List.length_pos_of_mem hx
    simp; omega
theorem up_live {calls : List GCall} {x : Int} {l : List Int} (h : Up calls x l) : (l.length = (calls.filter (fun c => !c.dead)).length) ↔ ∀ (i : Nat) c, calls[i]? = some c → c.dead = false → (i : Int) ∈ l := by
  rw [live_idx]
  let A := (List.range calls.length).filter (fun i => match calls[i]? with | some c => !c.dead | none => false)
  have hA : ∀ i, i ∈ A ↔ ∃ c, calls[i]? = some c ∧ c.dead = false := by
    intro i
    simp only [A, List.mem_filter, List.mem_range]
    constructor
    · rintro ⟨h1, h2⟩
      obtain ⟨c, hc⟩ : ∃ c, calls[i]? = some c := ⟨_, List.getElem?_eq_getElem h1⟩
      rw [hc] at h2
      exact ⟨c, hc, by simpa using h2⟩
    · rintro ⟨c, hc, hd⟩
      refine ⟨(List.getElem?_eq_some_iff.1 hc).1, ?_⟩
      rw [hc]; simp [hd]
  have hnd : (l.map Int.toNat).Nodup := by
    have h1 := h.nodup
    have h2 := up_lt h
    clear hA
    clear A
    clear h
    induction l with
    | nil => exact List.nodup_nil
    | cons y l ih =>
      rw [List.nodup_cons] at h1
      rw [List.map_cons, List.nodup_cons]
      refine ⟨fun hm => ?_, ih h1.2 (fun z hz => h2 z (List.mem_cons_of_mem _ hz))⟩
      obtain ⟨z, hz, e⟩ := List.mem_map.1 hm
      have a1 := (h2 z (List.mem_cons_of_mem _ hz)).1
      have a2 := (h2 y (List.mem_cons_self ..)).1
      have : z = y := by omega
      subst this
      exact h1.1 hz
  have hndA : A.Nodup := List.nodup_range.filter _
  have hsub : ∀ i ∈ l.map Int.toNat, i ∈ A := by
    intro i hi
    obtain ⟨y, hy, rfl⟩ := List.mem_map.1 hi
    obtain ⟨_, c, hc, hd⟩ := h.mem y hy
    exact (hA _).2 ⟨c, hc, hd⟩
  have hp := nodup_len hnd hsub
  constructor
  · intro hl i c hc hd
    have hiA := (hA i).2 ⟨c, hc, hd⟩
    refine Classical.byContradiction fun hni => ?_
    have hni' : i ∉ l.map Int.toNat := by
      intro hm
      obtain ⟨y, hy, rfl⟩ := List.mem_map.1 hm
      have := (up_lt h y hy).1
      rw [show ((y.toNat : Nat) : Int) = y by omega] at hni
      exact hni hy
    have := nodup_len (l := i :: l.map Int.toNat) (m := A) (List.nodup_cons.2 ⟨hni', hnd⟩) (fun x hx => by
      rcases List.mem_cons.1 hx with rfl | hx
      · exact hiA
      · exact hsub x hx)
    simp at this
    have hl' : l.length = A.length := hl
    omega
  · intro hal
    have hsub2 : ∀ i ∈ A, i ∈ l.map Int.toNat := by
      intro i hi
      obtain ⟨c, hc, hd⟩ := (hA i).1 hi
      exact List.mem_map.2 ⟨i, hal i c hc hd, by simp⟩
    have h2 := nodup_len hndA hsub2
    simp at hp h2
    show l.length = A.length
    omega
end Go.Ai
set_option linter.unusedSimpArgs false
set_option linter.unusedVariables false
namespace Go.Ai
theorem up_len {calls : List GCall} {x : Int} {l : List Int} (h : Up calls x l) : l.length ≤ calls.length := by
  have hnd := h.nodup
  have h2 := up_lt h
  have := nodup_len (l := l.map Int.toNat) (m := List.range calls.length) (by
    clear h
    induction l with
    | nil => exact List.nodup_nil
    | cons y l ih =>
      rw [List.nodup_cons] at hnd
      rw [List.map_cons, List.nodup_cons]
      refine ⟨fun hm => ?_, ih hnd.2 (fun z hz => h2 z (List.mem_cons_of_mem _ hz))⟩
      obtain ⟨z, hz, e⟩ := List.mem_map.1 hm
      have a1 := (h2 z (List.mem_cons_of_mem _ hz)).1
      have a2 := (h2 y (List.mem_cons_self ..)).1
      have : z = y := by omega
      subst this
      exact hnd.1 hz) (fun i hi => by
    obtain ⟨y, hy, rfl⟩ := List.mem_map.1 hi
    have := h2 y hy
    exact List.mem_range.2 (by omega))
  simpa using this
theorem chain_up {h : GHeap} {l : List Int} (hu : Up h.calls h.now l) : chain h = l := by
  unfold chain
  rw [chainF_O, up_chainO.2 ⟨hu, up_len hu⟩]
  simp
theorem wf_of {p : GProg} {h : GHeap} (hok : heapOkS p h = true) : WF p h (chain h) := by
  have hs := chain_some hok
  have hu := (up_chainO.1 hs).1
  simp only [heapOkS, Bool.and_eq_true, decide_eq_true_eq, inR_iff, List.all_eq_true, tailOk, Bool.or_eq_true] at hok
  obtain ⟨h1, ⟨h2, h3⟩, h4, h5, h6, h7, h8, h9, ha, hl, hw⟩ := hok
  refine ⟨h1, h2, h4, h5, h6, h7, h8, h9, hu, ?_, fun x hx c hc => ?_⟩
  · refine (up_live hu).1 ?_
    simp only [live'] at hl
    omega
  · simp only [waitOk, List.all_eq_true] at hw
    have := hw x hx
    unfold roomAt at this
    rw [hc] at this
    simpa using this
theorem ok_of {p : GProg} {h : GHeap} {l : List Int} (w : WF p h l) : heapOkS p h = true := by
  have hc := chain_up w.up
  have hlt := up_lt w.up
  have hnow : h.now ≤ h.calls.length - 1 := by
    cases w.up with
    | nil h => omega
    | cons h0 hx => have := (List.getElem?_eq_some_iff.1 hx).1; omega
  simp only [heapOkS, Bool.and_eq_true, decide_eq_true_eq, inR_iff, List.all_eq_true, tailOk, Bool.or_eq_true]
  refine ⟨w.prog, ⟨w.now, hnow⟩, w.born, w.len, w.code, w.said, w.ends, w.form, ?_, ?_, ?_⟩
  · cases w.up with
    | nil h => exact .inl h
    | cons h0 hx hd => right; unfold aliveAt; rw [hx]; simp [hd]
  · rw [hc]
    have := (up_live w.up).2 w.al
    simp only [live']
    omega
  · simp only [waitOk, List.all_eq_true]
    intro x hx
    rw [hc] at hx
    have := w.wait x hx
    obtain ⟨h0, c, hcc, _⟩ := w.up.mem x (List.mem_of_mem_drop hx)
    unfold roomAt
    rw [hcc]
    simpa using this c hcc
theorem WF.chain {p : GProg} {h : GHeap} {l : List Int} (w : WF p h l) : Ai.chain h = l := chain_up w.up
/-- Lists of a heap that is ok are short. -/
theorem WF.cl {p : GProg} {h : GHeap} {l : List Int} (w : WF p h l) : ShC h := by
  intro c hc
  have hf := w.form c hc
  simp only [formOk, Bool.and_eq_true] at hf
  obtain ⟨hf1, hf2⟩ := hf
  split at hf2
  · rename_i m hm
    simp only [formM, Bool.and_eq_true, decide_eq_true_eq, inR_iff] at hf2
    have hp := w.prog
    simp only [progOk, Bool.and_eq_true, List.all_eq_true] at hp
    have hmo := hp.2.2 m (List.mem_of_getElem? hm)
    simp only [methodOk, Bool.and_eq_true, inR_iff] at hmo
    omega
  · cases hf2
theorem WF.sh {p : GProg} {h : GHeap} {l : List Int} (w : WF p h l) (hs : h.said.length ≤ 2097152) : ShH h := by
  have h1 := w.born
  have h2 := w.len
  exact ⟨by omega, w.cl, hs⟩
end Go.Ai
set_option linter.unusedSimpArgs false
set_option linter.unusedVariables false
namespace Go.Ai
theorem valOk_iff {v : GVal} {n : Int} : valOk v n = true ↔ (v.kind = 0 ∧ v.num = 0) ∨ (v.kind = 1 ∧ 0 ≤ v.num ∧ v.num ≤ 999) ∨ (v.kind = 2 ∧ 0 ≤ v.num ∧ v.num ≤ n - 1) := by
  unfold valOk
  by_cases h0 : v.kind = 0
  · simp [h0]
  · by_cases h1 : v.kind = 1
    · simp [h0, h1, inR_iff]
    · by_cases h2 : v.kind = 2
      · simp [h0, h1, h2, inR_iff]
      · simp [h0, h1, h2]
theorem valOk_mono {v : GVal} {n n' : Int} (h : valOk v n = true) (hn : n ≤ n') : valOk v n' = true := by
  rw [valOk_iff] at h ⊢
  rcases h with h | h | h
  · exact .inl h
  · exact .inr (.inl h)
  · exact .inr (.inr ⟨h.1, h.2.1, by omega⟩)
theorem valOk_v0 {n : Int} : valOk v0 n = true := valOk_iff.2 (.inl ⟨rfl, rfl⟩)
theorem valOk_num {x n : Int} (h : 0 ≤ x ∧ x ≤ 999) : valOk (numV x) n = true := valOk_iff.2 (.inr (.inl ⟨rfl, h⟩))
theorem valOk_bit {b : Bool} {n : Int} : valOk (bitV b) n = true := by cases b <;> exact valOk_num (by omega)
/-- What is known of a call that is in form. -/
structure Frm (p : GProg) (c : GCall) (n : Int) (m : GMethod) : Prop where
  mr : 0 ≤ c.method ∧ c.method < p.length
  Hm : p[c.method.toNat]? = some m
  pc : 0 ≤ c.pc ∧ c.pc ≤ m.ops.length
  tl : (c.temps.length : Int) = m.temps
  sl : c.stack.length ≤ 6
  sd : -1 ≤ c.sender ∧ c.sender ≤ n - 1
  t : ∀ v ∈ c.temps, valOk v n = true
  s : ∀ v ∈ c.stack, valOk v n = true
  d : c.dead = true → c.sender = -1 ∧ c.stack.length = 0
theorem frm_iff {p : GProg} {c : GCall} {n : Int} : formOk p c n = true ↔ ∃ m, Frm p c n m := by
  constructor
  · intro h
    simp only [formOk, Bool.and_eq_true, inR_iff] at h
    obtain ⟨h1, h2⟩ := h
    split at h2
    · rename_i m hm
      simp only [formM, Bool.and_eq_true, Bool.or_eq_true, decide_eq_true_eq, inR_iff, List.all_eq_true, Bool.not_eq_true'] at h2
      obtain ⟨a, b, cc, d, e, f, g⟩ := h2
      have hdd : c.dead = true → c.sender = -1 ∧ c.stack.length = 0 := by
        intro hd
        rcases g with g | g
        · rw [hd] at g; cases g
        · exact g
      exact ⟨m, ⟨by omega, by omega⟩, hm, a, b, cc, d, e, f, hdd⟩
    · cases h2
  · rintro ⟨m, ⟨h1, h2, h3, h4, h5, h6, h7, h8, h9⟩⟩
    simp only [formOk, Bool.and_eq_true, inR_iff]
    refine ⟨by omega, ?_⟩
    rw [h2]
    simp only [formM, Bool.and_eq_true, Bool.or_eq_true, decide_eq_true_eq, inR_iff, List.all_eq_true, Bool.not_eq_true']
    refine ⟨h3, h4, h5, h6, h7, h8, ?_⟩
    cases hd : c.dead
    · exact .inl rfl
    · exact .inr (h9 hd)
theorem Frm.mono {p : GProg} {c : GCall} {n n' : Int} {m : GMethod} (f : Frm p c n m) (hn : n ≤ n') : Frm p c n' m :=
  ⟨f.mr, f.Hm, f.pc, f.tl, f.sl, ⟨f.sd.1, by have := f.sd.2; omega⟩, fun v hv => valOk_mono (f.t v hv) hn, fun v hv => valOk_mono (f.s v hv) hn, f.d⟩
theorem prog_method {p : GProg} (h : progOk p = true) {m : GMethod} {i : Nat} (hm : p[i]? = some m) : methodOk p m = true := by
  simp only [progOk, Bool.and_eq_true, List.all_eq_true] at h
  exact h.2.2 m (List.mem_of_getElem? hm)
theorem method_iff {p : GProg} {m : GMethod} : methodOk p m = true ↔ (0 ≤ m.args ∧ m.args ≤ 2) ∧ (m.args ≤ m.temps ∧ m.temps ≤ 4) ∧ m.ops.length ≤ 14 ∧ ∀ o ∈ m.ops, opOk p m o = true := by
  simp only [methodOk, Bool.and_eq_true, inR_iff, decide_eq_true_eq, List.all_eq_true]
section
variable {p : GProg} {h : GHeap} {l : List Int}
theorem WF.frm (w : WF p h l) {i : Nat} {c : GCall} (hc : h.calls[i]? = some c) : ∃ m, Frm p c h.calls.length m := frm_iff.1 (w.form c (List.mem_of_getElem? hc))
/-- A call is turned, and waits on as it did. -/
theorem WF.set (w : WF p h l) {i : Nat} {c c' : GCall} (hc : h.calls[i]? = some c) (hd : c'.dead = c.dead) (hs : c'.sender = c.sender) (hf : ∃ m, Frm p c' h.calls.length m) (hw : (i : Int) ∈ l.drop 1 → c'.stack.length < 6) : WF p (setC h i c') l := by
  have hil := (List.getElem?_eq_some_iff.1 hc).1
  refine ⟨w.prog, w.now, w.born, by simpa [setC] using w.len, w.code, w.said, w.ends, fun d hd' => ?_, ?_, fun j d hj hdd => ?_, fun x hx d hxd => ?_⟩
  · rw [setC_len]
    rcases List.mem_or_eq_of_mem_set hd' with h1 | rfl
    · exact w.form d h1
    · exact frm_iff.2 hf
  · refine w.up.frame fun y hy d hyd hdd => ?_
    rw [setC_calls]
    by_cases hyi : y.toNat = i
    · rw [hyi] at hyd ⊢
      rw [hc] at hyd
      injection hyd with e
      subst e
      exact ⟨c', by rw [List.getElem?_set_self hil], by rw [hd, hdd], hs⟩
    · exact ⟨d, by rw [List.getElem?_set_ne (Ne.symm hyi)]; exact hyd, hdd, rfl⟩
  · rw [setC_calls] at hj
    by_cases hij : i = j
    · subst hij
      rw [List.getElem?_set_self hil] at hj
      injection hj with e
      subst e
      exact w.al i c hc (by rw [← hd, hdd])
    · rw [List.getElem?_set_ne hij] at hj
      exact w.al j d hj hdd
  · rw [setC_calls] at hxd
    by_cases hij : i = x.toNat
    · subst hij
      rw [List.getElem?_set_self hil] at hxd
      injection hxd with e
      subst e
      have := (up_lt w.up x (List.mem_of_mem_drop hx)).1
      exact hw (by rwa [show ((x.toNat : Nat) : Int) = x by omega])
    · rw [List.getElem?_set_ne hij] at hxd
      exact w.wait x hx d hxd
theorem WF.said1 (w : WF p h l) {v : GVal} (hv : saidOk p v = true) : WF p { h with said := h.said ++ [v] } l := by
  refine ⟨w.prog, w.now, w.born, w.len, w.code, fun x hx => ?_, w.ends, w.form, w.up, w.al, w.wait⟩
  rcases List.mem_append.1 hx with hx | hx
  · exact w.said x hx
  · rw [List.mem_singleton] at hx; rw [hx]; exact hv
theorem told_ok (w : WF p h l) {v : GVal} (hv : valOk v h.calls.length = true) : saidOk p (toldV h v) = true := by
  unfold toldV
  by_cases hk : v.kind = 2
  · rw [if_pos hk]
    rw [valOk_iff] at hv
    rcases hv with hv | hv | hv
    · omega
    · omega
    · obtain ⟨c, hc⟩ : ∃ c, h.calls[v.num.toNat]? = some c := ⟨_, List.getElem?_eq_getElem (by omega)⟩
      obtain ⟨m, f⟩ := w.frm hc
      have := f.mr
      simp only [hc]
      unfold saidOk
      simp only [if_true, inR_iff]
      omega
  · rw [if_neg hk]
    unfold saidOk
    rw [if_neg hk, valOk_iff]
    rw [valOk_iff] at hv
    rcases hv with hv | hv | hv
    · exact .inl hv
    · exact .inr (.inl hv)
    · exact absurd hv.1 hk
theorem WF.say (w : WF p h l) {v : GVal} (hv : valOk v h.calls.length = true) : WF p (sayS h v) l := w.said1 (told_ok w hv)
theorem WF.head (w : WF p h l) (h0 : 0 ≤ h.now) : ∃ c m l', l = h.now :: l' ∧ h.calls[h.now.toNat]? = some c ∧ c.dead = false ∧ Up h.calls c.sender l' ∧ Frm p c h.calls.length m ∧ h.now ∉ l' := by
  have hn := w.up.nodup
  have hu := w.up
  cases hu with
  | nil h => omega
  | @cons _ c l' h0 hc hd ht =>
    obtain ⟨m, f⟩ := w.frm hc
    exact ⟨c, m, l', rfl, hc, hd, ht, f, (List.nodup_cons.1 hn).1⟩
theorem WF.push (w : WF p h l) (h0 : 0 ≤ h.now) {v : GVal} (hv : valOk v h.calls.length = true) (hs : ∀ c, h.calls[h.now.toNat]? = some c → c.stack.length < 6) : WF p (pushS h v) l := by
  obtain ⟨c, m, l', rfl, hc, hd, ht, f, hn⟩ := w.head h0
  unfold pushS
  rw [hc]
  refine w.set hc rfl rfl ⟨m, f.mr, f.Hm, f.pc, f.tl, ?_, f.sd, f.t, fun x hx => ?_, fun h => by rw [hd] at h; cases h⟩ (fun hm => ?_)
  · have := hs c hc; simp; omega
  · rcases List.mem_append.1 hx with hx | hx
    · exact f.s x hx
    · rw [List.mem_singleton] at hx; rw [hx]; exact hv
  · rw [show ((h.now.toNat : Nat) : Int) = h.now by omega] at hm
    exact absurd hm hn
theorem WF.code1 (w : WF p h l) (h0 : 0 ≤ h.now) {x : Int} (hx : x = 2 ∨ x = 3) : WF p { h with code := x } l := by
  refine ⟨w.prog, w.now, w.born, w.len, ?_, w.said, ?_, w.form, w.up, w.al, w.wait⟩
  · show 0 ≤ x ∧ x ≤ 3; omega
  · show x = 1 ↔ h.now < 0
    constructor <;> intro h <;> omega
theorem frm_dead {p : GProg} {c : GCall} {n : Int} {m : GMethod} (f : Frm p c n m) (hn : 0 ≤ n) : Frm p (deadC c) n m :=
  ⟨f.mr, f.Hm, f.pc, f.tl, by simp [deadC], by simp only [deadC]; omega, f.t, fun v hv => (by simp [deadC] at hv), fun _ => ⟨rfl, rfl⟩⟩
/-- The call that runs returns; another one waits for it. -/
theorem WF.leave (w : WF p h l) (h0 : 0 ≤ h.now) (hs : ∀ c, h.calls[h.now.toNat]? = some c → 0 ≤ c.sender) : WF p (leaveS h) (l.drop 1) := by
  obtain ⟨c, m, l', rfl, hc, hd, ht, f, hn⟩ := w.head h0
  have hs := hs c hc
  have hil := (List.getElem?_eq_some_iff.1 hc).1
  rw [leave_eq hc]
  have hne : ∀ y ∈ l', y.toNat ≠ h.now.toNat := fun y hy e => by
    have := (up_lt ht y hy).1
    have : y = h.now := by omega
    subst this; exact hn hy
  refine ⟨w.prog, ?_, w.born, by simpa [setC] using w.len, w.code, w.said, ?_, fun d hd' => ?_, ?_, fun j d hj hdd => ?_, fun x hx d hxd => ?_⟩
  · show -1 ≤ c.sender; omega
  · show h.code = 1 ↔ c.sender < 0
    have := w.ends
    constructor
    · intro e; have := this.1 e; omega
    · intro e; omega
  · show formOk p d ((setC h h.now.toNat (deadC c)).calls.length : Int) = true
    rw [setC_len]
    rcases List.mem_or_eq_of_mem_set hd' with h1 | rfl
    · exact w.form d h1
    · exact frm_iff.2 ⟨m, frm_dead f (by omega)⟩
  · refine ht.frame fun y hy d hyd hdd => ⟨d, ?_, hdd, rfl⟩
    show (h.calls.set h.now.toNat (deadC c))[y.toNat]? = some d
    rw [List.getElem?_set_ne (Ne.symm (hne y hy))]; exact hyd
  · have hj : (h.calls.set h.now.toNat (deadC c))[j]? = some d := hj
    by_cases hij : h.now.toNat = j
    · rw [hij] at hj hil
      rw [List.getElem?_set_self hil] at hj
      injection hj with e
      subst e
      simp [deadC] at hdd
    · rw [List.getElem?_set_ne hij] at hj
      have := w.al j d hj hdd
      rcases List.mem_cons.1 this with e | e
      · omega
      · exact e
  · have hxd : (h.calls.set h.now.toNat (deadC c))[x.toNat]? = some d := hxd
    have hx' : x ∈ l' := List.mem_of_mem_drop hx
    rw [List.getElem?_set_ne (Ne.symm (hne x hx'))] at hxd
    exact w.wait x (by simpa using hx') d hxd
theorem leave_now {h : GHeap} {c : GCall} (hc : h.calls[h.now.toNat]? = some c) : (leaveS h).now = c.sender := by rw [leave_eq hc]
/-- The last one returns. -/
theorem WF.last (w : WF p h l) (h0 : 0 ≤ h.now) {v : GVal} (hv : valOk v h.calls.length = true) (hs : (leaveS h).now < 0) : WF p { sayS (leaveS h) v with code := 1 } [] := by
  obtain ⟨c, m, l', rfl, hc, hd, ht, f, hn⟩ := w.head h0
  have hil := (List.getElem?_eq_some_iff.1 hc).1
  rw [leave_now hc] at hs
  have he : l' = [] := by cases ht with | nil => rfl | cons h => omega
  subst he
  have htold : toldV (leaveS h) v = toldV h v := by
    unfold toldV
    by_cases hk : v.kind = 2
    · rw [if_pos hk, if_pos hk, leave_eq hc]
      show (match (h.calls.set h.now.toNat (deadC c))[v.num.toNat]? with | some c => (⟨2, c.method⟩ : GVal) | none => v) = _
      by_cases hij : h.now.toNat = v.num.toNat
      · rw [← hij, List.getElem?_set_self hil, hc]; rfl
      · rw [List.getElem?_set_ne hij]; rfl
    · rw [if_neg hk, if_neg hk]
  have hto := told_ok w hv
  rw [← htold] at hto
  unfold sayS
  rw [leave_eq hc] at hto ⊢
  refine ⟨w.prog, ?_, w.born, by simpa [setC] using w.len, by show (0:Int) ≤ 1 ∧ (1:Int) ≤ 3; omega, fun x hx => ?_, ?_, fun d hd' => ?_, .nil hs, fun j d hj hdd => ?_, fun x hx d hxd => by cases hx⟩
  · show -1 ≤ c.sender; exact f.sd.1
  · rcases List.mem_append.1 hx with hx | hx
    · exact w.said x hx
    · rw [List.mem_singleton] at hx; rw [hx]; exact hto
  · show (1:Int) = 1 ↔ c.sender < 0
    exact ⟨fun _ => hs, fun _ => rfl⟩
  · show formOk p d ((setC h h.now.toNat (deadC c)).calls.length : Int) = true
    rw [setC_len]
    rcases List.mem_or_eq_of_mem_set hd' with h1 | rfl
    · exact w.form d h1
    · exact frm_iff.2 ⟨m, frm_dead f (by omega)⟩
  · have hj : (h.calls.set h.now.toNat (deadC c))[j]? = some d := hj
    exfalso
    by_cases hij : h.now.toNat = j
    · rw [hij] at hj hil
      rw [List.getElem?_set_self hil] at hj
      injection hj with e
      subst e
      simp [deadC] at hdd
    · rw [List.getElem?_set_ne hij] at hj
      have := w.al j d hj hdd
      rw [List.mem_singleton] at this
      omega
end
end Go.Ai
set_option linter.unusedSimpArgs false
set_option linter.unusedVariables false
namespace Go.Ai
section
variable {p : GProg} {h : GHeap} {l : List Int}
theorem leave_other {h : GHeap} {i : Nat} (hi : i ≠ h.now.toNat) : (leaveS h).calls[i]? = h.calls[i]? := by
  cases hc : h.calls[h.now.toNat]? with
  | none => unfold leaveS; rw [hc]
  | some c => rw [leave_eq hc]; show (h.calls.set h.now.toNat (deadC c))[i]? = _; rw [List.getElem?_set_ne (Ne.symm hi)]
theorem unw_wf : ∀ (f : Nat) {h : GHeap} {l : List Int} {to : Int}, WF p h l → to ∈ l → l.length ≤ f + 1 →
    ∃ l2, WF p (unwS f h to) l2 ∧ (unwS f h to).now = to ∧ (unwS f h to).calls.length = h.calls.length ∧ (unwS f h to).calls[to.toNat]? = h.calls[to.toNat]? ∧ (unwS f h to).code = h.code ∧ (unwS f h to).said = h.said ∧ (∃ l1, l = l1 ++ l2) := by
  intro f
  induction f with
  | zero =>
    intro h l to w hto hl
    have h0 : 0 ≤ h.now := by
      cases w.up with
      | nil => cases hto
      | cons h0 => exact h0
    obtain ⟨c, m, l', rfl, hc, hd, ht, fr, hn⟩ := w.head h0
    have : l' = [] := by simpa using hl
    subst this
    rw [List.mem_singleton] at hto
    exact ⟨_, w, hto.symm, rfl, rfl, rfl, rfl, [], rfl⟩
  | succ f ih =>
    intro h l to w hto hl
    have h0 : 0 ≤ h.now := by
      cases w.up with
      | nil => cases hto
      | cons h0 => exact h0
    obtain ⟨c, m, l', rfl, hc, hd, ht, fr, hn⟩ := w.head h0
    unfold unwS
    by_cases he : h.now = to
    · rw [if_pos he]
      exact ⟨_, w, he, rfl, rfl, rfl, rfl, [], rfl⟩
    · rw [if_neg he]
      have hto' : to ∈ l' := by
        rcases List.mem_cons.1 hto with e | e
        · exact absurd e.symm he
        · exact e
      have hs : 0 ≤ c.sender := by cases ht with
        | nil => cases hto'
        | cons h0 => exact h0
      have wl := w.leave h0 (fun c' hc' => by rw [hc] at hc'; injection hc' with e; subst e; exact hs)
      simp only [List.drop_one, List.tail_cons] at wl
      obtain ⟨l2, a1, a2, a3, a4, a5, a6, l1, a7⟩ := ih wl hto' (by simpa using hl)
      have hne : to.toNat ≠ h.now.toNat := fun e => by have := (up_lt ht to hto').1; exact he (by omega)
      exact ⟨l2, a1, a2, by rw [a3, leave_len], by rw [a4, leave_other hne], by rw [a5, leave_eq hc]; rfl, by rw [a6, leave_eq hc]; rfl, h.now :: l1, by rw [a7]; rfl⟩
theorem WF.setT (w : WF p h l) (i a : Nat) {v : GVal} (hv : valOk v h.calls.length = true) : WF p (setT h i a v) l := by
  unfold Ai.setT
  split
  · rename_i c hc
    split
    · rename_i ha
      obtain ⟨m, f⟩ := w.frm hc
      refine w.set hc rfl rfl ⟨m, f.mr, f.Hm, f.pc, by simpa using f.tl, f.sl, f.sd, fun x hx => ?_, f.s, f.d⟩ (fun hm => ?_)
      · rcases List.mem_or_eq_of_mem_set hx with hx | rfl
        · exact f.t x hx
        · exact hv
      · have := w.wait _ hm c (by simpa using hc)
        exact this
    · exact w
  · exact w
theorem WF.setPc (w : WF p h l) (h0 : 0 ≤ h.now) {a : Int} (ha : ∀ c m, h.calls[h.now.toNat]? = some c → p[c.method.toNat]? = some m → 0 ≤ a ∧ a ≤ m.ops.length) : WF p (setPc h a) l := by
  obtain ⟨c, m, l', rfl, hc, hd, ht, f, hn⟩ := w.head h0
  unfold Ai.setPc
  rw [hc]
  refine w.set hc rfl rfl ⟨m, f.mr, f.Hm, ha c m hc f.Hm, f.tl, f.sl, f.sd, f.t, f.s, f.d⟩ (fun hm => ?_)
  rw [show ((h.now.toNat : Nat) : Int) = h.now by omega] at hm
  exact absurd hm hn
/-- Calls that wait: one more, or some have gone. -/
def Ch (l l' : List Int) : Prop := (∃ n, l' = n :: l) ∨ ∃ l1, l = l1 ++ l'
theorem Ch.rfl {l : List Int} : Ch l l := .inr ⟨[], by simp⟩
theorem WF.call (w : WF p h l) (h0 : 0 ≤ h.now) {method : Int} {m' : GMethod} {as : List GVal} (hm : p[method.toNat]? = some m') (hr : 0 ≤ method ∧ method < p.length) (ha : (as.length : Int) = m'.args) (hv : ∀ v ∈ as, valOk v h.calls.length = true)
    (hs : ∀ c, h.calls[h.now.toNat]? = some c → c.stack.length < 6) : ∃ l', WF p (callS p h method as) l' ∧ Ch l l' := by
  unfold callS
  by_cases hb : 30 ≤ h.born
  · rw [if_pos hb]; exact ⟨l, w.code1 h0 (.inr rfl), .rfl⟩
  · rw [if_neg hb, hm]
    obtain ⟨c, m, l', rfl, hc, hd, ht, f, hn⟩ := w.head h0
    have hmo := method_iff.1 (prog_method w.prog hm)
    have hil := (List.getElem?_eq_some_iff.1 hc).1
    refine ⟨(h.calls.length : Int) :: h.now :: l', ⟨w.prog, ?_, ⟨?_, ?_⟩, ?_, w.code, w.said, ?_, fun d hd' => ?_, ?_, fun j d hj hdd => ?_, fun x hx d hxd => ?_⟩, .inl ⟨_, rfl⟩⟩
    · show -1 ≤ (h.calls.length : Int); omega
    · show 1 ≤ h.born + 1; have := w.born; omega
    · show h.born + 1 ≤ 30; omega
    · show ((h.calls ++ [newC m' method as h.now]).length : Int) ≤ h.born + 1
      have := w.len; simp; omega
    · show h.code = 1 ↔ (h.calls.length : Int) < 0
      have := w.ends
      constructor
      · intro e; have := this.1 e; omega
      · intro e; omega
    · show formOk p d ((h.calls ++ [newC m' method as h.now]).length : Int) = true
      rcases List.mem_append.1 hd' with hd' | hd'
      · obtain ⟨m2, f2⟩ := frm_iff.1 (w.form d hd')
        exact frm_iff.2 ⟨m2, f2.mono (by simp; omega)⟩
      · rw [List.mem_singleton] at hd'
        subst hd'
        refine frm_iff.2 ⟨m', ⟨hr.1, hr.2⟩, hm, ?_, ?_, ?_, ?_, fun v hx => ?_, fun v hx => ?_, fun hd => ?_⟩
        · show (0:Int) ≤ 0 ∧ (0:Int) ≤ m'.ops.length; omega
        · simp only [newC, List.length_append, List.length_replicate]; omega
        · simp [newC]
        · simp only [newC, List.length_append]; simp; omega
        · simp only [newC] at hx
          rcases List.mem_append.1 hx with hx | hx
          · exact valOk_mono (hv v hx) (by simp; omega)
          · rw [(List.mem_replicate.1 hx).2]; exact valOk_v0
        · simp [newC] at hx
        · simp [newC] at hd
    · refine .cons (c := newC m' method as h.now) (by show (0 : Int) ≤ h.calls.length; omega) ?_ rfl ?_
      · show (h.calls ++ [newC m' method as h.now])[(h.calls.length : Int).toNat]? = _; simp
      · have hu := w.up.frame (calls' := h.calls ++ [newC m' method as h.now]) (fun y hy d hyd hdd => ⟨d, by rw [List.getElem?_append_left (List.getElem?_eq_some_iff.1 hyd).1]; exact hyd, hdd, rfl⟩)
        exact hu
    · have hj : (h.calls ++ [newC m' method as h.now])[j]? = some d := hj
      rcases Nat.lt_or_ge j h.calls.length with hlt | hge
      · rw [List.getElem?_append_left hlt] at hj
        exact List.mem_cons_of_mem _ (w.al j d hj hdd)
      · have := (List.getElem?_eq_some_iff.1 hj).1
        simp at this
        have : j = h.calls.length := by omega
        subst this; exact List.mem_cons_self ..
    · have hx : x ∈ h.now :: l' := hx
      have hxd : (h.calls ++ [newC m' method as h.now])[x.toNat]? = some d := hxd
      have hlt := up_lt w.up x hx
      rw [List.getElem?_append_left (by omega)] at hxd
      rcases List.mem_cons.1 hx with rfl | hx'
      · exact hs d hxd
      · exact w.wait x hx' d hxd
theorem WF.back (w : WF p h l) (h0 : 0 ≤ h.now) {to : Int} {v : GVal} (ht : 0 ≤ to ∧ to < h.calls.length) (hv : valOk v h.calls.length = true) (hs : ∀ c, h.calls[h.now.toNat]? = some c → c.stack.length < 6) : ∃ l', WF p (backS h to v) l' ∧ Ch l l' := by
  unfold backS
  by_cases hd : deadAt h to = true
  · rw [if_pos hd]; exact ⟨l, w.code1 h0 (.inl rfl), .rfl⟩
  · rw [if_neg hd]
    obtain ⟨c, hc⟩ : ∃ c, h.calls[to.toNat]? = some c := ⟨_, List.getElem?_eq_getElem (by omega)⟩
    unfold deadAt at hd
    rw [hc] at hd
    have hto : to ∈ l := by
      have := w.al to.toNat c hc (by simpa using hd)
      rwa [show ((to.toNat : Nat) : Int) = to by omega] at this
    obtain ⟨l2, a1, a2, a3, a4, a5, a6, a7⟩ := unw_wf h.calls.length w hto (by have := up_len w.up; omega)
    refine ⟨l2, a1.push (by rw [a2]; exact ht.1) (by rw [a3]; exact hv) (fun d hd => ?_), .inr a7⟩
    rw [a2, a4] at hd
    by_cases he : h.now = to
    · exact hs d (by rw [he]; exact hd)
    · refine w.wait to ?_ d hd
      obtain ⟨c0, m0, l', rfl, _⟩ := w.head h0
      rcases List.mem_cons.1 hto with e | e
      · exact absurd e.symm he
      · simpa using e
theorem WF.ret (w : WF p h l) (h0 : 0 ≤ h.now) {v : GVal} (hv : valOk v h.calls.length = true) : ∃ l', WF p (retS' h v) l' ∧ Ch l l' := by
  unfold retS'
  obtain ⟨c, m, l', rfl, hc, hd, ht, f, hn⟩ := w.head h0
  by_cases hneg : (leaveS h).now < 0
  · simp only [if_pos hneg]
    exact ⟨[], w.last h0 hv hneg, .inr ⟨_, (List.append_nil _).symm⟩⟩
  · simp only [if_neg hneg]
    have hs : (leaveS h).now = c.sender := leave_now hc
    have wl := w.leave h0 (fun c' hc' => by rw [hc] at hc'; injection hc' with e; subst e; omega)
    refine ⟨_, wl.push (by omega) (by rw [leave_len]; exact hv) (fun d hdd => ?_), .inr ⟨[h.now], by simp⟩⟩
    rw [hs] at hdd
    have hne : c.sender.toNat ≠ h.now.toNat := by
      intro e
      have : c.sender = h.now := by omega
      cases ht with
      | nil => omega
      | cons h1 => exact hn (by rw [this]; exact List.mem_cons_self ..)
    rw [leave_other hne] at hdd
    refine w.wait c.sender ?_ d hdd
    cases ht with
    | nil => omega
    | cons h1 => simp
/-- What is known where an operation is done: its values were taken. -/
structure Din (p : GProg) (op : GOp) (as : List GVal) (h : GHeap) (l : List Int) (c : GCall) (m : GMethod) : Prop where
  w : WF p h l
  h0 : 0 ≤ h.now
  hc : h.calls[h.now.toNat]? = some c
  f : Frm p c h.calls.length m
  ook : opOk p m op = true
  al : (as.length : Int) = (takesS p op).1
  av : ∀ v ∈ as, valOk v h.calls.length = true
  room : (c.stack.length : Int) + (takesS p op).2 ≤ 6
  kinds : kindsS op as = true
variable {op : GOp} {as : List GVal} {c : GCall} {m : GMethod}
theorem Din.sh (d : Din p op as h l c m) (hk : (takesS p op).2 = 1) : ∀ c', h.calls[h.now.toNat]? = some c' → c'.stack.length < 6 := by
  intro c' hc'
  rw [d.hc] at hc'
  injection hc' with e
  subst e
  have := d.room
  omega
theorem Din.arg (d : Din p op as h l c m) {i : Nat} (hi : (i : Int) < (takesS p op).1) : valOk (Ai.arg as i) h.calls.length = true ∧ as[i]? = some (Ai.arg as i) := by
  have h1 : i < as.length := by have := d.al; omega
  have := arg_at h1
  exact ⟨d.av _ (List.mem_of_getElem? this), this⟩
theorem Din.call0 (d : Din p op as h l c m) (hk : op.kind = 12 ∨ op.kind = 13 ∨ op.kind = 17 ∨ op.kind = 18 ∨ op.kind = 14 ∨ op.kind = 15) : (Ai.arg as 0).kind = 2 ∧ 0 ≤ (Ai.arg as 0).num ∧ (Ai.arg as 0).num < h.calls.length := by
  have hkk := d.kinds
  have h5 : ¬ op.kind = 5 := by omega
  unfold kindsS at hkk
  rw [if_neg h5, if_pos hk] at hkk
  have hk2 := of_decide_eq_true hkk
  have ht : (0 : Nat) < (takesS p op).1 := by rcases hk with h | h | h | h | h | h <;> simp [takesS, h]
  have := valOk_iff.1 (d.arg (i := 0) ht).1
  omega
theorem look_ok (w : WF p h l) (op : GOp) (x : Int) (ha : op.kind = 13 → 0 ≤ op.a) : valOk (lookS h op x) h.calls.length = true := by
  unfold lookS
  split
  · exact valOk_v0
  · rename_i c hc
    obtain ⟨m, f⟩ := w.frm hc
    split
    · split
      · exact valOk_iff.2 (.inr (.inr ⟨rfl, by omega, f.sd.2⟩))
      · exact valOk_v0
    · split
      · rename_i h13
        split
        · obtain ⟨v, hv⟩ : ∃ v, c.temps[op.a.toNat]? = some v := ⟨_, List.getElem?_eq_getElem (by have := ha h13; omega)⟩
          rw [hv]
          exact f.t v (List.mem_of_getElem? hv)
        · exact valOk_v0
      · split
        · exact valOk_bit
        · split
          · have := f.pc
            have hmo := method_iff.1 (prog_method w.prog f.Hm)
            exact valOk_num (by omega)
          · exact valOk_v0
theorem Din.op13 (d : Din p op as h l c m) (hk : op.kind = 13 ∨ op.kind = 14) : 0 ≤ op.a ∧ op.a ≤ 3 := by
  have := d.ook
  unfold opOk at this
  rw [if_neg (by omega), if_neg (by omega), if_neg (by omega), if_neg (by omega), if_pos hk, inR_iff] at this
  exact this
theorem Din.op9 (d : Din p op as h l c m) (hk : op.kind = 9) : 0 ≤ op.a ∧ op.a ≤ p.length - 1 := by
  have := d.ook
  unfold opOk at this
  rw [if_neg (by omega), if_neg (by omega), if_neg (by omega), if_pos hk, inR_iff] at this
  exact this
theorem Din.op2 (d : Din p op as h l c m) (hk : op.kind = 2 ∨ op.kind = 3) : 0 ≤ op.a ∧ op.a < c.temps.length := by
  have := d.ook
  unfold opOk at this
  rw [if_neg (by omega), if_pos hk, inR_iff] at this
  have := d.f.tl
  omega
theorem Din.op7 (d : Din p op as h l c m) (hk : op.kind = 7 ∨ op.kind = 8) : 0 ≤ op.a ∧ op.a ≤ m.ops.length := by
  have := d.ook
  unfold opOk at this
  rw [if_neg (by omega), if_neg (by omega), if_pos hk, inR_iff] at this
  omega
theorem Din.op1 (d : Din p op as h l c m) (hk : op.kind = 1) : 0 ≤ op.a ∧ op.a ≤ 99 := by
  have := d.ook
  unfold opOk at this
  rw [if_pos hk, inR_iff] at this
  exact this
theorem doS_1 {p : GProg} {op : GOp} {as : List GVal} {h : GHeap} (hk : op.kind = 1) : doS p op as h = pushS h (numV op.a) := by simp [doS, hk]
theorem doS_2 {p : GProg} {op : GOp} {as : List GVal} {h : GHeap} (hk : op.kind = 2) : doS p op as h = pushS h (tempAt h op.a) := by simp [doS, hk]
theorem doS_3 {p : GProg} {op : GOp} {as : List GVal} {h : GHeap} (hk : op.kind = 3) : doS p op as h = setT h h.now.toNat op.a.toNat (arg as 0) := by simp [doS, hk]
theorem doS_4 {p : GProg} {op : GOp} {as : List GVal} {h : GHeap} (hk : op.kind = 4) : doS p op as h = h := by simp [doS, hk]
theorem doS_5 {p : GProg} {op : GOp} {as : List GVal} {h : GHeap} (hk : op.kind = 5) : doS p op as h = pushS h (numV (((arg as 0).num + (arg as 1).num).tmod 1000)) := by simp [doS, hk]
theorem doS_6 {p : GProg} {op : GOp} {as : List GVal} {h : GHeap} (hk : op.kind = 6) : doS p op as h = pushS h (bitV (decide (arg as 0 = arg as 1))) := by simp [doS, hk]
theorem doS_7 {p : GProg} {op : GOp} {as : List GVal} {h : GHeap} (hk : op.kind = 7) : doS p op as h = setPc h op.a := by simp [doS, hk]
theorem doS_8 {p : GProg} {op : GOp} {as : List GVal} {h : GHeap} (hk : op.kind = 8) : doS p op as h = (if (arg as 0).kind = 0 ∨ arg as 0 = numV 0 then setPc h op.a else h) := by simp [doS, hk]
theorem doS_9 {p : GProg} {op : GOp} {as : List GVal} {h : GHeap} (hk : op.kind = 9) : doS p op as h = callS p h op.a as := by simp [doS, hk]
theorem doS_10 {p : GProg} {op : GOp} {as : List GVal} {h : GHeap} (hk : op.kind = 10) : doS p op as h = retS' h (arg as 0) := by simp [doS, hk]
theorem doS_11 {p : GProg} {op : GOp} {as : List GVal} {h : GHeap} (hk : op.kind = 11) : doS p op as h = pushS h ⟨2, h.now⟩ := by simp [doS, hk]
theorem doS_12 {p : GProg} {op : GOp} {as : List GVal} {h : GHeap} (hk : op.kind = 12) : doS p op as h = pushS h (lookS h op (arg as 0).num) := by simp [doS, hk]
theorem doS_13 {p : GProg} {op : GOp} {as : List GVal} {h : GHeap} (hk : op.kind = 13) : doS p op as h = pushS h (lookS h op (arg as 0).num) := by simp [doS, hk]
theorem doS_14 {p : GProg} {op : GOp} {as : List GVal} {h : GHeap} (hk : op.kind = 14) : doS p op as h = setT h (arg as 0).num.toNat op.a.toNat (arg as 1) := by simp [doS, hk]
theorem doS_15 {p : GProg} {op : GOp} {as : List GVal} {h : GHeap} (hk : op.kind = 15) : doS p op as h = backS h (arg as 0).num (arg as 1) := by simp [doS, hk]
theorem doS_16 {p : GProg} {op : GOp} {as : List GVal} {h : GHeap} (hk : op.kind = 16) : doS p op as h = sayS h (arg as 0) := by simp [doS, hk]
theorem doS_17 {p : GProg} {op : GOp} {as : List GVal} {h : GHeap} (hk : op.kind = 17) : doS p op as h = pushS h (lookS h op (arg as 0).num) := by simp [doS, hk]
theorem doS_18 {p : GProg} {op : GOp} {as : List GVal} {h : GHeap} (hk : op.kind = 18) : doS p op as h = pushS h (lookS h op (arg as 0).num) := by simp [doS, hk]
theorem Din.kr (d : Din p op as h l c m) : op.kind = 1 ∨ op.kind = 2 ∨ op.kind = 3 ∨ op.kind = 4 ∨ op.kind = 5 ∨ op.kind = 6 ∨ op.kind = 7 ∨ op.kind = 8 ∨ op.kind = 9 ∨ op.kind = 10 ∨ op.kind = 11 ∨ op.kind = 12 ∨ op.kind = 13 ∨ op.kind = 14 ∨ op.kind = 15 ∨ op.kind = 16 ∨ op.kind = 17 ∨ op.kind = 18 := by
  have h1 := d.ook
  unfold opOk at h1
  by_cases a1 : op.kind = 1
  · omega
  rw [if_neg a1] at h1
  by_cases a2 : op.kind = 2 ∨ op.kind = 3
  · omega
  rw [if_neg a2] at h1
  by_cases a3 : op.kind = 7 ∨ op.kind = 8
  · omega
  rw [if_neg a3] at h1
  by_cases a4 : op.kind = 9
  · omega
  rw [if_neg a4] at h1
  by_cases a5 : op.kind = 13 ∨ op.kind = 14
  · omega
  rw [if_neg a5] at h1
  simp only [Bool.and_eq_true, inR_iff] at h1
  omega
theorem Din.wf (d : Din p op as h l c m) : ∃ l', WF p (doS p op as h) l' ∧ Ch l l' := by
  have w := d.w
  have hpc : ∀ {a : Int}, 0 ≤ a ∧ a ≤ m.ops.length → ∀ c' m', h.calls[h.now.toNat]? = some c' → p[c'.method.toNat]? = some m' → 0 ≤ a ∧ a ≤ m'.ops.length := by
    intro a ha c' m' h1 h2
    rw [d.hc] at h1
    injection h1 with e
    subst e
    rw [d.f.Hm] at h2
    injection h2 with e
    subst e
    exact ha
  have hlook : op.kind = 12 ∨ op.kind = 13 ∨ op.kind = 17 ∨ op.kind = 18 → ∃ l', WF p (pushS h (lookS h op (Ai.arg as 0).num)) l' ∧ Ch l l' := fun hk =>
    ⟨l, w.push d.h0 (look_ok w op _ (fun h => (d.op13 (.inl h)).1)) (d.sh (by rcases hk with h | h | h | h <;> simp [takesS, h])), .rfl⟩
  rcases d.kr with hk | hk | hk | hk | hk | hk | hk | hk | hk | hk | hk | hk | hk | hk | hk | hk | hk | hk
  · rw [doS_1 hk]
    have := d.op1 hk
    exact ⟨l, w.push d.h0 (valOk_num (by omega)) (d.sh (by simp [takesS, hk])), .rfl⟩
  · rw [doS_2 hk]
    have := d.op2 (.inl hk)
    obtain ⟨v, hv⟩ : ∃ v, c.temps[op.a.toNat]? = some v := ⟨_, List.getElem?_eq_getElem (by omega)⟩
    refine ⟨l, w.push d.h0 ?_ (d.sh (by simp [takesS, hk])), .rfl⟩
    unfold tempAt
    rw [d.hc]
    simp only [hv, Option.getD_some]
    exact d.f.t v (List.mem_of_getElem? hv)
  · rw [doS_3 hk]
    exact ⟨l, w.setT _ _ (d.arg (i := 0) (by simp [takesS, hk])).1, .rfl⟩
  · rw [doS_4 hk]; exact ⟨l, w, .rfl⟩
  · rw [doS_5 hk]
    have h1 := valOk_iff.1 (d.arg (i := 0) (by simp [takesS, hk])).1
    have h2 := valOk_iff.1 (d.arg (i := 1) (by simp [takesS, hk])).1
    have hkk := d.kinds
    unfold kindsS at hkk
    simp only [if_pos hk, Bool.and_eq_true, decide_eq_true_eq] at hkk
    have e0 : 0 ≤ (Ai.arg as 0).num + (Ai.arg as 1).num := by omega
    have e1 := Int.tmod_lt_of_pos ((Ai.arg as 0).num + (Ai.arg as 1).num) (by omega : (0:Int) < 1000)
    have e2 : 0 ≤ ((Ai.arg as 0).num + (Ai.arg as 1).num).tmod 1000 := by rw [Int.tmod_eq_emod_of_nonneg e0]; exact Int.emod_nonneg _ (by omega)
    exact ⟨l, w.push d.h0 (valOk_num ⟨e2, by omega⟩) (d.sh (by simp [takesS, hk])), .rfl⟩
  · rw [doS_6 hk]
    exact ⟨l, w.push d.h0 valOk_bit (d.sh (by simp [takesS, hk])), .rfl⟩
  · rw [doS_7 hk]
    exact ⟨l, w.setPc d.h0 (hpc (d.op7 (.inl hk))), .rfl⟩
  · rw [doS_8 hk]
    by_cases hz : (Ai.arg as 0).kind = 0 ∨ Ai.arg as 0 = numV 0
    · rw [if_pos hz]; exact ⟨l, w.setPc d.h0 (hpc (d.op7 (.inr hk))), .rfl⟩
    · rw [if_neg hz]; exact ⟨l, w, .rfl⟩
  · rw [doS_9 hk]
    have h9 := d.op9 hk
    obtain ⟨m', hm⟩ : ∃ m', p[op.a.toNat]? = some m' := ⟨_, List.getElem?_eq_getElem (by omega)⟩
    have ht : takesS p op = (m'.args, 1) := by
      have : inR op.a 0 (p.length - 1) = true := inR_iff.2 h9
      simp [takesS, hk, this, hm]
    exact w.call d.h0 hm ⟨h9.1, by omega⟩ (by rw [d.al, ht]) d.av (d.sh (by rw [ht]))
  · rw [doS_10 hk]
    exact w.ret d.h0 (d.arg (i := 0) (by simp [takesS, hk])).1
  · rw [doS_11 hk]
    have := (List.getElem?_eq_some_iff.1 d.hc).1
    exact ⟨l, w.push d.h0 (valOk_iff.2 (.inr (.inr ⟨rfl, d.h0, by show h.now ≤ _; have := d.h0; omega⟩))) (d.sh (by simp [takesS, hk])), .rfl⟩
  · rw [doS_12 hk]; exact hlook (by omega)
  · rw [doS_13 hk]; exact hlook (by omega)
  · rw [doS_14 hk]
    exact ⟨l, w.setT _ _ (d.arg (i := 1) (by simp [takesS, hk])).1, .rfl⟩
  · rw [doS_15 hk]
    have := d.call0 (by omega)
    exact w.back d.h0 this.2 (d.arg (i := 1) (by simp [takesS, hk])).1 (d.sh (by simp [takesS, hk]))
  · rw [doS_16 hk]
    exact ⟨l, w.say (d.arg (i := 0) (by simp [takesS, hk])).1, .rfl⟩
  · rw [doS_17 hk]; exact hlook (by omega)
  · rw [doS_18 hk]; exact hlook (by omega)
/-- What a step finds. -/
inductive StepI (p : GProg) (h : GHeap) (l : List Int) : Prop
  | none (c : GCall) (m : GMethod) (hc : h.calls[h.now.toNat]? = some c) (f : Frm p c h.calls.length m) (ho : m.ops[c.pc.toNat]? = none) (he : stepS p h = stuckS h)
  | few (c : GCall) (m : GMethod) (op : GOp) (hc : h.calls[h.now.toNat]? = some c) (f : Frm p c h.calls.length m) (ho : m.ops[c.pc.toNat]? = some op) (hop : opOk p m op = true)
      (hl : (c.stack.length : Int) - (takesS p op).1 < 0 ∨ 6 < (c.stack.length : Int) - (takesS p op).1 + (takesS p op).2) (he : stepS p h = stuckS h)
  | kind (c : GCall) (m : GMethod) (op : GOp) (hc : h.calls[h.now.toNat]? = some c) (f : Frm p c h.calls.length m) (ho : m.ops[c.pc.toNat]? = some op) (hop : opOk p m op = true)
      (k : Nat) (hk : (k : Int) = (c.stack.length : Int) - (takesS p op).1) (hl : (k : Int) + (takesS p op).2 ≤ 6) (ht : 0 ≤ (takesS p op).1) (hkk : kindsS op (c.stack.drop k) = false) (he : stepS p h = stuckS h)
  | done (c : GCall) (m : GMethod) (op : GOp) (hc : h.calls[h.now.toNat]? = some c) (f : Frm p c h.calls.length m) (ho : m.ops[c.pc.toNat]? = some op) (hop : opOk p m op = true)
      (k : Nat) (hk : (k : Int) = (c.stack.length : Int) - (takesS p op).1) (hl : (k : Int) + (takesS p op).2 ≤ 6) (ht : 0 ≤ (takesS p op).1) (hkk : kindsS op (c.stack.drop k) = true)
      (d : Din p op (c.stack.drop k) (setC h h.now.toNat { c with stack := c.stack.take k, pc := c.pc + 1 }) l { c with stack := c.stack.take k, pc := c.pc + 1 } m)
      (he : stepS p h = doS p op (c.stack.drop k) (setC h h.now.toNat { c with stack := c.stack.take k, pc := c.pc + 1 }))
theorem takes_nn (hp : progOk p = true) (op : GOp) : 0 ≤ (takesS p op).1 ∧ (takesS p op).1 ≤ 2 ∧ 0 ≤ (takesS p op).2 ∧ (takesS p op).2 ≤ 1 := by
  unfold takesS
  repeat' split
  all_goals first | (rename_i m hm; have := (method_iff.1 (prog_method hp hm)).1; dsimp only; omega) | (dsimp only; omega) | decide
theorem step_in (w : WF p h l) (h0 : 0 ≤ h.now) : StepI p h l := by
  obtain ⟨c, m, l', rfl, hc, hd, ht, f, hn⟩ := w.head h0
  have hmo := method_iff.1 (prog_method w.prog f.Hm)
  have hcl := (List.getElem?_eq_some_iff.1 hc).1
  cases ho : m.ops[c.pc.toNat]? with
  | none => exact .none c m hc f ho (by simp only [stepS, hc, f.Hm, ho])
  | some op =>
    have hop := hmo.2.2.2 op (List.mem_of_getElem? ho)
    have tn := takes_nn w.prog op
    by_cases hl : (c.stack.length : Int) - (takesS p op).1 < 0 ∨ 6 < (c.stack.length : Int) - (takesS p op).1 + (takesS p op).2
    · exact .few c m op hc f ho hop hl (by simp only [stepS, hc, f.Hm, ho, if_pos hl])
    · have hk : ((((c.stack.length : Int) - (takesS p op).1).toNat : Nat) : Int) = (c.stack.length : Int) - (takesS p op).1 := by omega
      cases hkk : kindsS op (c.stack.drop ((c.stack.length : Int) - (takesS p op).1).toNat) with
      | false => exact .kind c m op hc f ho hop _ hk (by omega) tn.1 hkk (by simp only [stepS, hc, f.Hm, ho, if_neg hl, hkk]; rfl)
      | true =>
        have hpc : c.pc < m.ops.length := by have := (List.getElem?_eq_some_iff.1 ho).1; have := f.pc; omega
        have f' : Frm p { c with stack := c.stack.take ((c.stack.length : Int) - (takesS p op).1).toNat, pc := c.pc + 1 } h.calls.length m :=
          ⟨f.mr, f.Hm, ⟨by show 0 ≤ c.pc + 1; have := f.pc; omega, by show c.pc + 1 ≤ _; omega⟩, f.tl, by show (c.stack.take _).length ≤ 6; have := f.sl; simp; omega, f.sd, f.t, fun v hv => f.s v (List.mem_of_mem_take hv), fun h => by rw [hd] at h; cases h⟩
        refine .done c m op hc f ho hop _ hk (by omega) tn.1 hkk ⟨w.set hc rfl rfl ⟨m, f'⟩ (fun hm => ?_), h0, ?_, ?_, hop, ?_, fun v hv => ?_, ?_, hkk⟩ (by simp only [stepS, hc, f.Hm, ho, if_neg hl, hkk]; rfl)
        · rw [show ((h.now.toNat : Nat) : Int) = h.now by omega] at hm
          exact absurd hm hn
        · show (h.calls.set h.now.toNat _)[h.now.toNat]? = _
          rw [List.getElem?_set_self hcl]
        · rw [setC_len]; exact f'
        · rw [List.length_drop]; omega
        · rw [setC_len]; exact f.s v (List.mem_of_mem_drop hv)
        · show ((c.stack.take _).length : Int) + _ ≤ 6
          rw [List.length_take]; omega
theorem step_ch (w : WF p h l) (h0 : 0 ≤ h.now) : ∃ l', WF p (stepS p h) l' ∧ Ch l l' := by
  cases step_in w h0 with
  | none _ _ _ _ _ he => rw [he]; exact ⟨l, w.code1 h0 (.inl rfl), .rfl⟩
  | few _ _ _ _ _ _ _ _ he => rw [he]; exact ⟨l, w.code1 h0 (.inl rfl), .rfl⟩
  | kind _ _ _ _ _ _ _ _ _ _ _ _ he => rw [he]; exact ⟨l, w.code1 h0 (.inl rfl), .rfl⟩
  | done _ _ _ _ _ _ _ _ _ _ _ _ d he => rw [he]; exact d.wf
theorem step_wf (w : WF p h l) (h0 : 0 ≤ h.now) : ∃ l', WF p (stepS p h) l' := by
  obtain ⟨l', h1, _⟩ := step_ch w h0
  exact ⟨l', h1⟩
end
end Go.Ai
