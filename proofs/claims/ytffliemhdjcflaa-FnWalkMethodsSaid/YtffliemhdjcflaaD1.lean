/- A heap at work: what the steps do, as plain data, and how such a heap lies in memory. How a heap at work lies in memory: its struct, its calls, what was said; what one operation changes. What an append, a cut, a store into the struct make of a heap at work. The specification's heap at work: its functions, one by one. The specification's heap at work: new calls. The specification's heap at work: a call, what operations ask and look at. -/
import Derived.Test.YtffliemhdjcflaaB10
set_option linter.unusedSimpArgs false
set_option linter.unusedVariables false
namespace Go.Ai
/-! ## what a step does -/
def numV (n : Int) : GVal := ⟨1, n⟩
def bitV (b : Bool) : GVal := if b then numV 1 else numV 0
def v0 : GVal := ⟨0, 0⟩
def setC (h : GHeap) (i : Nat) (c : GCall) : GHeap := { h with calls := h.calls.set i c }
@[simp] theorem setC_now (h : GHeap) (i : Nat) (c : GCall) : (setC h i c).now = h.now := rfl
@[simp] theorem setC_born (h : GHeap) (i : Nat) (c : GCall) : (setC h i c).born = h.born := rfl
@[simp] theorem setC_said (h : GHeap) (i : Nat) (c : GCall) : (setC h i c).said = h.said := rfl
@[simp] theorem setC_code (h : GHeap) (i : Nat) (c : GCall) : (setC h i c).code = h.code := rfl
@[simp] theorem setC_len (h : GHeap) (i : Nat) (c : GCall) : (setC h i c).calls.length = h.calls.length := by simp [setC]
theorem setC_calls (h : GHeap) (i : Nat) (c : GCall) : (setC h i c).calls = h.calls.set i c := rfl
/-- A call that has returned. -/
def deadC (c : GCall) : GCall := { c with dead := true, stack := [], sender := -1 }
def pushS (h : GHeap) (v : GVal) : GHeap := match h.calls[h.now.toNat]? with
  | some c => setC h h.now.toNat { c with stack := c.stack ++ [v] }
  | none => h
def dieS (h : GHeap) (i : Nat) : GHeap := match h.calls[i]? with
  | some c => setC h i (deadC c)
  | none => h
def toldV (h : GHeap) (v : GVal) : GVal := if v.kind = 2 then (match h.calls[v.num.toNat]? with | some c => ⟨2, c.method⟩ | none => v) else v
def sayS (h : GHeap) (v : GVal) : GHeap := { h with said := h.said ++ [toldV h v] }
def newC (m : GMethod) (method : Int) (args : List GVal) (sender : Int) : GCall := ⟨method, 0, args ++ List.replicate (m.temps - args.length).toNat v0, [], sender, false⟩
def callS (p : GProg) (h : GHeap) (method : Int) (args : List GVal) : GHeap :=
  if 30 ≤ h.born then { h with code := 3 } else match p[method.toNat]? with
    | some m => { h with calls := h.calls ++ [newC m method args h.now], born := h.born + 1, now := h.calls.length }
    | none => h
def leaveS (h : GHeap) : GHeap := match h.calls[h.now.toNat]? with
  | some c => { dieS h h.now.toNat with now := c.sender }
  | none => h
def retS' (h : GHeap) (v : GVal) : GHeap :=
  let h2 := leaveS h
  if h2.now < 0 then { sayS h2 v with code := 1 } else pushS h2 v
def unwS : Nat → GHeap → Int → GHeap
  | 0, h, _ => h
  | f + 1, h, to => if h.now = to then h else unwS f (leaveS h) to
def deadAt (h : GHeap) (i : Int) : Bool := match h.calls[i.toNat]? with | some c => c.dead | none => true
def backS (h : GHeap) (to : Int) (v : GVal) : GHeap := if deadAt h to = true then { h with code := 2 } else pushS (unwS h.calls.length h to) v
def lookS (h : GHeap) (op : GOp) (i : Int) : GVal := match h.calls[i.toNat]? with
  | none => v0
  | some c =>
    if op.kind = 12 then (if 0 ≤ c.sender then ⟨2, c.sender⟩ else v0)
    else if op.kind = 13 then (if op.a < c.temps.length then (c.temps[op.a.toNat]?).getD v0 else v0)
    else if op.kind = 17 then bitV c.dead
    else if op.kind = 18 then numV c.pc
    else v0
def arg (l : List GVal) (i : Nat) : GVal := (l[i]?).getD v0
def kindsS (op : GOp) (as : List GVal) : Bool :=
  if op.kind = 5 then decide ((arg as 0).kind = 1) && decide ((arg as 1).kind = 1)
  else if op.kind = 12 ∨ op.kind = 13 ∨ op.kind = 17 ∨ op.kind = 18 ∨ op.kind = 14 ∨ op.kind = 15 then decide ((arg as 0).kind = 2)
  else true
def takesS (p : GProg) (op : GOp) : Int × Int :=
  if op.kind = 1 ∨ op.kind = 2 ∨ op.kind = 11 then (0, 1)
  else if op.kind = 3 ∨ op.kind = 4 ∨ op.kind = 8 ∨ op.kind = 10 ∨ op.kind = 16 then (1, 0)
  else if op.kind = 5 ∨ op.kind = 6 then (2, 1)
  else if op.kind = 12 ∨ op.kind = 13 ∨ op.kind = 17 ∨ op.kind = 18 then (1, 1)
  else if op.kind = 14 then (2, 0)
  else if op.kind = 15 then (2, 1)
  else if op.kind = 9 then (if inR op.a 0 (p.length - 1) = true then (match p[op.a.toNat]? with | some m => (m.args, 1) | none => (0, 0)) else (0, 0))
  else (0, 0)
def setT (h : GHeap) (i a : Nat) (v : GVal) : GHeap := match h.calls[i]? with
  | some c => if a < c.temps.length then setC h i { c with temps := c.temps.set a v } else h
  | none => h
def setPc (h : GHeap) (a : Int) : GHeap := match h.calls[h.now.toNat]? with
  | some c => setC h h.now.toNat { c with pc := a }
  | none => h
def tempAt (h : GHeap) (a : Int) : GVal := match h.calls[h.now.toNat]? with
  | some c => (c.temps[a.toNat]?).getD v0
  | none => v0
def doS (p : GProg) (op : GOp) (as : List GVal) (h : GHeap) : GHeap :=
  if op.kind = 1 then pushS h (numV op.a)
  else if op.kind = 2 then pushS h (tempAt h op.a)
  else if op.kind = 3 then setT h h.now.toNat op.a.toNat (arg as 0)
  else if op.kind = 5 then pushS h (numV (((arg as 0).num + (arg as 1).num).tmod 1000))
  else if op.kind = 6 then pushS h (bitV (decide (arg as 0 = arg as 1)))
  else if op.kind = 7 then setPc h op.a
  else if op.kind = 8 then (if (arg as 0).kind = 0 ∨ arg as 0 = numV 0 then setPc h op.a else h)
  else if op.kind = 9 then callS p h op.a as
  else if op.kind = 10 then retS' h (arg as 0)
  else if op.kind = 11 then pushS h ⟨2, h.now⟩
  else if op.kind = 12 ∨ op.kind = 13 ∨ op.kind = 17 ∨ op.kind = 18 then pushS h (lookS h op (arg as 0).num)
  else if op.kind = 14 then setT h (arg as 0).num.toNat op.a.toNat (arg as 1)
  else if op.kind = 15 then backS h (arg as 0).num (arg as 1)
  else if op.kind = 16 then sayS h (arg as 0)
  else h
def stuckS (h : GHeap) : GHeap := { h with code := 2 }
def stepS (p : GProg) (h : GHeap) : GHeap := match h.calls[h.now.toNat]? with
  | none => h
  | some c => match p[c.method.toNat]? with
    | none => h
    | some m => match m.ops[c.pc.toNat]? with
      | none => stuckS h
      | some op =>
        if (c.stack.length : Int) - (takesS p op).1 < 0 ∨ 6 < (c.stack.length : Int) - (takesS p op).1 + (takesS p op).2 then stuckS h
        else
          let l := ((c.stack.length : Int) - (takesS p op).1).toNat
          if kindsS op (c.stack.drop l) = true then doS p op (c.stack.drop l) (setC h h.now.toNat { c with stack := c.stack.take l, pc := c.pc + 1 }) else stuckS h
def runS (p : GProg) : Nat → GHeap → GHeap
  | 0, h => h
  | f + 1, h => if h.code = 0 then runS p f (stepS p h) else h
end Go.Ai
set_option linter.unusedSimpArgs false
set_option linter.unusedVariables false
namespace Go.Ai
/-- The struct o holds, behind pre, the heap h; its calls belong to A, what was said to B. -/
structure HW (k : Nat) (Z : Heap') (A B : List Nat) (pre : List AVal) (o : Nat) (h : GHeap) (n : Nat) (g : Heap') (ow : Ow) (cv sv : AVal) : Prop where
  dj : ∀ s, A <+: s → ¬ B <+: s
  Ho : g o = some [pre ++ [cv, vi h.now, vi h.born, sv, vi h.code]]
  on : ow o = none
  ok : k ≤ o ∧ o < n
  c : Own g ow A (lCall h.calls) cv
  s : Own g ow B (lVal h.said) sv
  f : ∀ id q, ow id = some q → k ≤ id ∧ id < n ∧ (A <+: q ∨ B <+: q)
  z : ∀ id, id < k → g id = Z id
  ni : pre = [] → noImmO g
/-- The same, and a call of it. -/
structure VW (k : Nat) (Z : Heap') (A B : List Nat) (pre : List AVal) (o : Nat) (h : GHeap) (n : Nat) (g : Heap') (ow : Ow) (ci : Nat) (es : Obj') (sv : AVal) (j : Nat) (c : GCall) (tv kv : AVal) : Prop where
  W : HW k Z A B pre o h n g ow (.slice ci 0 h.calls.length) sv
  hj : h.calls[j]? = some c
  Hc : g ci = some es
  wi : ow ci = some A
  el : es.length = h.calls.length
  He : es[j]? = some [vi c.method, vi c.pc, tv, kv, vi c.sender, .bool c.dead]
  t : Own g ow (A ++ [j, 2]) (lVal c.temps) tv
  s : Own g ow (A ++ [j, 3]) (lVal c.stack) kv
theorem ni_upd {g : Heap'} (h : noImmO g) {id : Nat} {es : Obj'} (he : ∀ e ∈ es, ∀ c ∈ e, noImm c = true) : noImmO (updO g id (some es)) := by
  intro j es' hj e hm c hc
  simp only [updO] at hj
  split at hj
  · injection hj with hj; subst hj; exact he e hm c hc
  · exact h j es' hj e hm c hc
theorem ni_none {g : Heap'} (h : noImmO g) {id : Nat} : noImmO (updO g id none) := by
  intro j es' hj e hm c hc
  simp only [updO] at hj
  split at hj
  · cases hj
  · exact h j es' hj e hm c hc
theorem ni_set {es : Obj'} (h : ∀ e ∈ es, ∀ c ∈ e, noImm c = true) {j : Nat} {row : List AVal} (hr : ∀ c ∈ row, noImm c = true) : ∀ e ∈ es.set j row, ∀ c ∈ e, noImm c = true := by
  intro e he
  rcases List.mem_or_eq_of_mem_set he with he | rfl
  · exact h e he
  · exact hr
theorem own_ni {g : Heap'} {ow : Ow} {p : List Nat} {es : Obj'} {v : AVal} (h : Own g ow p (.list es) v) : noImm v = true := h.noImm (by intro x e; cases e)
section
variable {k n : Nat} {Z : Heap'} {A B : List Nat} {pre : List AVal} {o : Nat} {h : GHeap} {g : Heap'} {ow : Ow} {cv sv : AVal}
theorem HW.view (W : HW k Z A B pre o h n g ow cv sv) {j : Nat} {c : GCall} (hj : h.calls[j]? = some c) : ∃ ci es tv kv, cv = .slice ci 0 h.calls.length ∧ VW k Z A B pre o h n g ow ci es sv j c tv kv := by
  have hc := W.c
  have hne : h.calls ≠ [] := by intro e; rw [e] at hj; cases hj
  rcases hc.list_inv with ⟨e, _⟩ | ⟨_, ci, es, h1, h2, h3, h4, h5⟩
  · exact absurd (List.map_eq_nil_iff.1 e) hne
  · obtain ⟨row, hr, hrow⟩ := h5 j (eCall c) (by simp [hj])
    have hl : (h.calls.map eCall).length = h.calls.length := by simp
    rw [hl] at h1 h4
    match row, hrow with
    | [x0, x1, x2, x3, x4, x5], ⟨p0, p1, p2, p3, p4, p5, _⟩ =>
      have e0 := own_scal_inv (by rfl) p0
      have e1 := own_scal_inv (by rfl) p1
      have e4 := own_scal_inv (by rfl) p4
      have e5 := own_scal_inv (by rfl) p5
      subst e0 e1 e4 e5 h1
      exact ⟨ci, es, x2, x3, rfl, W, hj, h3, h2, h4, hr, p2, p3⟩
variable {ci : Nat} {es : Obj'} {j : Nat} {c : GCall} {tv kv : AVal}
theorem VW.jlt (V : VW k Z A B pre o h n g ow ci es sv j c tv kv) : j < h.calls.length := (List.getElem?_eq_some_iff.1 V.hj).1
theorem VW.ix (V : VW k Z A B pre o h n g ow ci es sv j c tv kv) {x : Int} (h0 : 0 ≤ x) (hx : x.toNat = j) : idxV 6 (.slice ci 0 h.calls.length) (.int .i64 x) g = some (.ptr ci j 0) := by
  have := V.jlt
  have h1 := idx_slice (z := 6) (off := 0) (len := h.calls.length) (k := .i64) (n := x) h0 (by omega) V.Hc (by rw [Nat.zero_add, hx]; exact V.He) rfl
  rw [h1, Nat.zero_add, hx]
theorem VW.oc (V : VW k Z A B pre o h n g ow ci es sv j c tv kv) : ci ≠ o := by
  intro e
  have h1 := V.wi
  rw [e, V.W.on] at h1
  cases h1
theorem pre_ne {p q : List Nat} {x y : Nat} {u v : List Nat} (hn : x ≠ y) : ∀ s, p ++ x :: u <+: s → ¬ p ++ y :: v <+: s := by
  intro s h1 h2
  obtain ⟨t1, rfl⟩ := h1
  obtain ⟨t2, h2⟩ := h2
  simp at h2
  exact hn h2.1.symm
theorem pre_up {p q s : List Nat} (h : p ++ q <+: s) : p <+: s := List.IsPrefix.trans (List.prefix_append p q) h
/-- A call is turned: its row, and what belongs to it. -/
theorem VW.set (V : VW k Z A B pre o h n g ow ci es sv j c tv kv) {c' : GCall} {tv' kv' : AVal} {n' : Nat} {g1 g' : Heap'} {ow' : Ow} (hn : n ≤ n') (hg' : g' = updO g1 ci (some (es.set j [vi c'.method, vi c'.pc, tv', kv', vi c'.sender, .bool c'.dead])))
    (hk : Keep g ow g1 ow' (fun id q => ¬ A ++ [j] <+: q)) (ho : g1 o = g o) (hon : ow' o = none) (hf : ∀ id q, ow' id = some q → k ≤ id ∧ id < n' ∧ (A <+: q ∨ B <+: q)) (hz : ∀ id, id < k → g1 id = Z id) (hni : pre = [] → noImmO g1)
    (ht : Own g1 ow' (A ++ [j, 2]) (lVal c'.temps) tv') (hs : Own g1 ow' (A ++ [j, 3]) (lVal c'.stack) kv') :
    VW k Z A B pre o (setC h j c') n' g' ow' ci (es.set j [vi c'.method, vi c'.pc, tv', kv', vi c'.sender, .bool c'.dead]) sv j c' tv' kv' := by
  have hjl := V.jlt
  have hAj : ¬ A ++ [j] <+: A := by intro h1; have := h1.length_le; simp at this; omega
  have hwi : ow' ci = some A := (hk ci A V.wi hAj).2
  have hl : (setC h j c').calls.length = h.calls.length := by simp [setC]
  have hz' : ∀ id, id < k → g' id = Z id := by
    intro id hid
    have := (V.W.f ci A V.wi).1
    rw [hg']; simp only [updO]; rw [if_neg (by omega)]; exact hz id hid
  have hci' : g' ci = some (es.set j [vi c'.method, vi c'.pc, tv', kv', vi c'.sender, .bool c'.dead]) := by rw [hg']; simp [updO]
  have up : ∀ {q a v}, (∀ s, q <+: s → s ≠ A) → Own g1 ow' q a v → Own g' ow' q a v := by
    intro q a v hq h1
    refine h1.mono (fun id s hs hp => ⟨fun e he => ?_, hs⟩)
    rw [hg']
    simp only [updO]
    rw [if_neg, he]
    rintro rfl
    rw [hwi] at hs
    injection hs with hs
    exact hq s hp hs.symm
  have ht' : Own g' ow' (A ++ [j, 2]) (lVal c'.temps) tv' := up (fun s h1 e => by subst e; have := h1.length_le; simp at this; omega) ht
  have hs' : Own g' ow' (A ++ [j, 3]) (lVal c'.stack) kv' := up (fun s h1 e => by subst e; have := h1.length_le; simp at this; omega) hs
  have hni' : pre = [] → noImmO g' := by
    intro hp
    rw [hg']
    have h1 := V.W.ni hp ci es V.Hc
    refine ni_upd (hni hp) (ni_set h1 (fun c hc => ?_))
    simp only [List.mem_cons, List.not_mem_nil, or_false] at hc
    rcases hc with rfl | rfl | rfl | rfl | rfl | rfl
    · rfl
    · rfl
    · exact own_ni ht
    · exact own_ni hs
    · rfl
    · rfl
  refine ⟨⟨V.W.dj, ?_, hon, ⟨V.W.ok.1, Nat.lt_of_lt_of_le V.W.ok.2 hn⟩, ?_, ?_, hf, hz', hni'⟩, ?_, hci', hwi, ?_, ?_, ht', hs'⟩
  · rw [hg', hl]
    simp only [updO]
    rw [if_neg (fun e => V.oc e.symm), ho]
    exact V.W.Ho
  · rw [hl]
    have h1 : lCall (setC h j c').calls = .list ((h.calls.map eCall).set j (eCall c')) := by simp [setC, List.map_set]
    rw [h1]
    refine Own.setRow V.W.c V.Hc (by simpa using hjl) hci' hwi ⟨.int _ _ _, .int _ _ _, ht', hs', .int _ _ _, .bool _ _, trivial⟩ (fun id q hid hp => ?_)
    obtain ⟨i, hi, hp⟩ := hp
    have hq : ¬ A ++ [j] <+: q := fun h2 => pre_ne (q := []) hi q hp h2
    obtain ⟨h3, h4⟩ := hk id q hid hq
    refine ⟨fun e he => ?_, h4⟩
    rw [hg']; simp only [updO]
    rw [if_neg, h3 e he]
    rintro rfl
    rw [V.wi] at hid
    injection hid with hid
    subst hid
    have := hp.length_le
    simp at this
    omega
  · refine up (fun s h1 e => by subst e; exact V.W.dj _ (List.prefix_refl _) h1) (V.W.s.mono (hk.mono (fun id q _ hq h1 => V.W.dj q (pre_up h1) hq)))
  · simp [setC, List.getElem?_set_self hjl]
  · rw [hl]; simp [V.el]
  · rw [List.getElem?_set_self (by rw [V.el]; exact hjl)]
/-- A cell of its row, a scalar. -/
theorem VW.row (V : VW k Z A B pre o h n g ow ci es sv j c tv kv) (c' : GCall) (kv' : AVal) {off : Nat} {x : AVal} (hrow : splice [vi c.method, vi c.pc, tv, kv, vi c.sender, .bool c.dead] off [x] = [vi c'.method, vi c'.pc, tv, kv', vi c'.sender, .bool c'.dead]) (hoff : off < 6)
    (ht : c'.temps = c.temps) (hs : Own g ow (A ++ [j, 3]) (lVal c'.stack) kv') :
    ∃ g' es', stH 1 j off [x] (some es) = some es' ∧ updO g ci (some es') = g' ∧ VW k Z A B pre o (setC h j c') n g' ow ci es' sv j c' tv kv' := by
  refine ⟨_, _, stH_ok V.He ⟨rfl, by simp; omega⟩, rfl, ?_⟩
  rw [hrow]
  exact V.set (Nat.le_refl _) rfl Keep.refl rfl V.W.on V.W.f V.W.z V.W.ni (by rw [ht]; exact V.t) hs
end
end Go.Ai
set_option linter.unusedSimpArgs false
set_option linter.unusedVariables false
namespace Go.Ai
/-- A value that may be stored. -/
structure Ok1 (v : AVal) : Prop where
  k : kv v = v
  g : gv v = some v
  p : ∀ d, pv d v = v
  c : cellsOf v = some [v]
theorem ok1_list {g : Heap'} {ow : Ow} {p : List Nat} {es : Obj'} {v : AVal} (h : Own g ow p (.list es) v) : Ok1 v := by
  rcases h.list_inv with ⟨_, rfl⟩ | ⟨_, id, es0, rfl, _⟩
  · exact ⟨rfl, rfl, fun _ => rfl, rfl⟩
  · exact ⟨rfl, rfl, fun _ => rfl, rfl⟩
theorem sVal (l : List GVal) : ∀ e ∈ l.map eVal, ∀ x ∈ e, scalA x = true := by
  intro e he x hx
  obtain ⟨v, _, rfl⟩ := List.mem_map.1 he
  simp at hx
  rcases hx with rfl | rfl <;> rfl
theorem ni_val (l : List GVal) : ∀ e ∈ l.map eVal, ∀ c ∈ e, noImm c = true := by
  intro e he c hc
  obtain ⟨v, _, rfl⟩ := List.mem_map.1 he
  simp at hc
  rcases hc with rfl | rfl <;> rfl
theorem own_new {g : Heap'} {ow : Ow} {q : List Nat} {id : Nat} {l : List GVal} (hne : l ≠ []) (hw : ow id = some q) (hg : g id = some (l.map eVal)) : Own g ow q (lVal l) (.slice id 0 l.length) :=
  Own.mkFlat (sVal l) (by simp [hne]) (by simp) hw hg
/-- One value more: a new object, the old one is gone. -/
theorem app_one {g : Heap'} {ow : Ow} {q : List Nat} {l : List GVal} {v : AVal} {n : Nat} (h : Own g ow q (lVal l) v) (hl : l.length ≤ 4294967296) (x : GVal) :
    ∃ g1, appV 2 16 v (.list [[vi x.kind, vi x.num]]) ⟨n, g⟩ = some (.slice n 0 (l.length + 1), ⟨n + 1, g1⟩) ∧ g1 n = some ((l ++ [x]).map eVal) ∧ (∀ id, id ≠ n → ow id ≠ some q → g1 id = g id) ∧ (noImmO g → noImmO g1) := by
  rcases h.flat (sVal l) with ⟨e, rfl⟩ | ⟨hne, id, rfl, hw, hg⟩
  · have e := List.map_eq_nil_iff.1 e
    subst e
    refine ⟨updO g n (some [[vi x.kind, vi x.num]]), ?_, by simp [updO], fun id hid _ => by simp [updO, hid], fun hn => ni_upd hn (fun e he c hc => by simp at he; subst he; simp at hc; rcases hc with rfl | rfl <;> rfl)⟩
    simp [appV, srcOf, maxA]
  · refine ⟨updO (updO g id none) n (some (l.map eVal ++ [[vi x.kind, vi x.num]])), ?_, by simp [updO], fun id' hid hw' => ?_, fun hn => ni_upd (ni_none hn) (fun e he c hc => ?_)⟩
    · have hm : l ≠ [] := fun e => hne (by simp [e])
      have hb : (l.length + 1) * 16 ≤ 1099511627776 := by omega
      simp [appV, srcOf, hg, hm, maxA, hb]
    · simp only [updO]
      rw [if_neg hid, if_neg]
      rintro rfl
      exact hw' hw
    · rcases List.mem_append.1 he with he | he
      · exact ni_val l e he c hc
      · simp at he; subst he; simp at hc; rcases hc with rfl | rfl <;> rfl
/-- A list anew. -/
def New (n : Nat) (g : Heap') (n' : Nat) (g1 : Heap') (l : List GVal) (v : AVal) : Prop :=
  (l = [] ∧ v = .nils ∧ n' = n ∧ g1 = g) ∨ (l ≠ [] ∧ v = .slice n 0 l.length ∧ n' = n + 1 ∧ g1 = updO g n (some (l.map eVal)))
theorem app_new {g : Heap'} {n : Nat} {y : AVal} {l : List GVal} (hs : srcOf g y = some (l.map eVal)) (hl : l.length ≤ 2097152) : ∃ n' g1 v, appV 2 16 .nils y ⟨n, g⟩ = some (v, ⟨n', g1⟩) ∧ New n g n' g1 l v := by
  by_cases hne : l = []
  · subst hne
    exact ⟨n, g, .nils, by simp [appV, hs], .inl ⟨rfl, rfl, rfl, rfl⟩⟩
  · refine ⟨n + 1, _, .slice n 0 l.length, ?_, .inr ⟨hne, rfl, rfl, rfl⟩⟩
    have hb : l.length * 16 ≤ 1099511627776 := by omega
    simp [appV, hs, hne, maxA, hb]
theorem New.own {n n' : Nat} {g g1 : Heap'} {l : List GVal} {v : AVal} (h : New n g n' g1 l v) (ow : Ow) (q : List Nat) : n ≤ n' ∧ n' ≤ n + 1 ∧ Own g1 (updW ow n q) q (lVal l) v ∧ (∀ id, id ≠ n → g1 id = g id) ∧ (noImmO g → noImmO g1) := by
  rcases h with ⟨rfl, rfl, rfl, rfl⟩ | ⟨hne, rfl, rfl, rfl⟩
  · exact ⟨Nat.le_refl _, by omega, .nil _, fun _ _ => rfl, fun h => h⟩
  · exact ⟨by omega, Nat.le_refl _, own_new hne (by simp [updW]) (by simp [updO]), fun id h => by simp [updO, h], fun h => ni_upd h (ni_val l)⟩
section
variable {k n : Nat} {Z : Heap'} {A B : List Nat} {pre : List AVal} {o : Nat} {h : GHeap} {g : Heap'} {ow : Ow} {cv sv : AVal}
variable {ci : Nat} {es : Obj'} {j : Nat} {c : GCall} {tv kv : AVal}
theorem HW.lt (W : HW k Z A B pre o h n g ow cv sv) {id : Nat} {q : List Nat} (hq : ow id = some q) : id < n := (W.f id q hq).2.1
theorem HW.kn (W : HW k Z A B pre o h n g ow cv sv) : k ≤ n := by have := W.ok; omega
theorem HW.keep (W : HW k Z A B pre o h n g ow cv sv) {n' : Nat} {g' : Heap'} (hn : n ≤ n') (hg : ∀ id, id < n → g' id = g id) (hni : pre = [] → noImmO g → noImmO g' := by first | exact fun _ h => h | (intro e; cases e)) : HW k Z A B pre o h n' g' ow cv sv := by
  have hk : ∀ P, Keep g ow g' ow P := fun P id q hid _ => ⟨fun e he => by rw [hg id (W.lt hid)]; exact he, hid⟩
  refine ⟨W.dj, by rw [hg o W.ok.2]; exact W.Ho, W.on, ⟨W.ok.1, by have := W.ok.2; omega⟩, W.c.mono (hk _), W.s.mono (hk _), fun id q hq => ?_, fun id hid => by rw [hg id (by have := W.kn; omega)]; exact W.z id hid, fun hp => hni hp (W.ni hp)⟩
  have := W.f id q hq
  exact ⟨this.1, by omega, this.2.2⟩
theorem VW.keep (V : VW k Z A B pre o h n g ow ci es sv j c tv kv) {n' : Nat} {g' : Heap'} (hn : n ≤ n') (hg : ∀ id, id < n → g' id = g id) (hni : pre = [] → noImmO g → noImmO g' := by first | exact fun _ h => h | (intro e; cases e)) : VW k Z A B pre o h n' g' ow ci es sv j c tv kv := by
  have hk : ∀ P, Keep g ow g' ow P := fun P id q hid _ => ⟨fun e he => by rw [hg id (V.W.lt hid)]; exact he, hid⟩
  exact ⟨V.W.keep hn hg hni, V.hj, by rw [hg ci (V.W.lt V.wi)]; exact V.Hc, V.wi, V.el, V.He, V.t.mono (hk _), V.s.mono (hk _)⟩
/-- The call that is looked at may be another one. -/
theorem VW.other (V : VW k Z A B pre o h n g ow ci es sv j c tv kv) {i : Nat} {d : GCall} (hi : h.calls[i]? = some d) : ∃ tv' kv', VW k Z A B pre o h n g ow ci es sv i d tv' kv' := by
  obtain ⟨ci', es', tv', kv', e, V'⟩ := V.W.view hi
  injection e with e1 _ _
  subst e1
  have : es' = es := by have := V.Hc; rw [V'.Hc] at this; injection this
  subst this
  exact ⟨tv', kv', V'⟩
/-- The struct itself: now, born, code. -/
theorem HW.root (W : HW k Z A B pre o h n g ow cv sv) {h' : GHeap} {off : Nat} {x : AVal} (hrow : splice (pre ++ [cv, vi h.now, vi h.born, sv, vi h.code]) off [x] = pre ++ [cv, vi h'.now, vi h'.born, sv, vi h'.code]) (hoff : off < pre.length + 5) (hc : h'.calls = h.calls) (hs : h'.said = h.said) :
    ∃ g', updO g o (some [pre ++ [cv, vi h'.now, vi h'.born, sv, vi h'.code]]) = g' ∧ stH 1 0 off [x] (some [pre ++ [cv, vi h.now, vi h.born, sv, vi h.code]]) = some [pre ++ [cv, vi h'.now, vi h'.born, sv, vi h'.code]] ∧ HW k Z A B pre o h' n g' ow cv sv ∧ ∀ id, id ≠ o → g' id = g id := by
  have hk : ∀ P, Keep g ow (updO g o (some [pre ++ [cv, vi h'.now, vi h'.born, sv, vi h'.code]])) ow P := fun P => Keep.refl.upd (fun q hq => by rw [W.on] at hq; cases hq)
  refine ⟨_, rfl, ?_, ⟨W.dj, by simp [updO], W.on, W.ok, ?_, ?_, W.f, fun id hid => ?_, fun hp => ni_upd (W.ni hp) (fun e he c hc => ?_)⟩, fun id hid => by simp [updO, hid]⟩
  · rw [stH_ok (n := 1) (i := 0) (c := off) (vs := [x]) (es := [pre ++ [cv, vi h.now, vi h.born, sv, vi h.code]]) (e := pre ++ [cv, vi h.now, vi h.born, sv, vi h.code]) rfl ⟨rfl, by simp; omega⟩, hrow]; rfl
  · rw [hc]; exact W.c.mono (hk _)
  · rw [hs]; exact W.s.mono (hk _)
  · simp only [updO]; rw [if_neg (by have := W.ok.1; omega)]; exact W.z id hid
  · subst hp
    simp at he; subst he; simp at hc
    rcases hc with rfl | rfl | rfl | rfl | rfl
    · exact own_ni W.c
    · rfl
    · rfl
    · exact own_ni W.s
    · rfl
theorem VW.root (V : VW k Z A B pre o h n g ow ci es sv j c tv kv) {h' : GHeap} {off : Nat} {x : AVal} (hrow : splice (pre ++ [.slice ci 0 h.calls.length, vi h.now, vi h.born, sv, vi h.code]) off [x] = pre ++ [.slice ci 0 h.calls.length, vi h'.now, vi h'.born, sv, vi h'.code]) (hoff : off < pre.length + 5) (hc : h'.calls = h.calls) (hs : h'.said = h.said) :
    ∃ g', updO g o (some [pre ++ [.slice ci 0 h.calls.length, vi h'.now, vi h'.born, sv, vi h'.code]]) = g' ∧ stH 1 0 off [x] (some [pre ++ [.slice ci 0 h.calls.length, vi h.now, vi h.born, sv, vi h.code]]) = some [pre ++ [.slice ci 0 h.calls.length, vi h'.now, vi h'.born, sv, vi h'.code]] ∧ VW k Z A B pre o h' n g' ow ci es sv j c tv kv := by
  obtain ⟨g', e1, e2, W', e3⟩ := V.W.root hrow hoff hc hs
  have hk : ∀ P, Keep g ow g' ow P := by rw [← e1]; exact fun P => Keep.refl.upd (fun q hq => by rw [V.W.on] at hq; cases hq)
  refine ⟨g', e1, e2, by rw [hc]; exact W', by rw [hc]; exact V.hj, by rw [e3 _ V.oc]; exact V.Hc, V.wi, by rw [hc]; exact V.el, V.He, V.t.mono (hk _), V.s.mono (hk _)⟩
theorem pre_ne3 {p : List Nat} {x y : Nat} (hn : x ≠ y) {u v s : List Nat} (h1 : p ++ x :: u <+: s) : ¬ p ++ y :: v <+: s := pre_ne (q := []) hn s h1
theorem fresh_up (V : VW k Z A B pre o h n g ow ci es sv j c tv kv) {g1 : Heap'} {i : Nat} (hg : ∀ id, id ≠ n → ow id ≠ some (A ++ [j, i]) → g1 id = g id) : Keep g ow g1 (updW ow n (A ++ [j, i])) (fun id q => ¬ A ++ [j, i] <+: q) := by
  intro id q hid hq
  have hlt := V.W.lt hid
  refine ⟨fun e he => ?_, ?_⟩
  · rw [hg id (by omega) (fun e => by rw [hid] at e; injection e with e; subst e; exact hq (List.prefix_refl _))]; exact he
  · simp only [updW]; rw [if_neg (by omega)]; exact hid
theorem jq {i : Nat} {q : List Nat} (h : ¬ A ++ [j] <+: q) : ¬ A ++ [j, i] <+: q := fun h1 => h (pre_up (q := [i]) (by simpa using h1))
/-- A list of a call, made anew or longer: g1 the memory behind it. -/
theorem VW.stk (V : VW k Z A B pre o h n g ow ci es sv j c tv kv) (c' : GCall) {n' : Nat} {g1 : Heap'} {kv' : AVal} (hn : n ≤ n') (hn' : n' ≤ n + 1) (hg : ∀ id, id ≠ n → ow id ≠ some (A ++ [j, 3]) → g1 id = g id) (hs : Own g1 (updW ow n (A ++ [j, 3])) (A ++ [j, 3]) (lVal c'.stack) kv')
    (hnn : n' = n → kv' = .nils) (he : { c' with stack := c.stack } = c) (hni : pre = [] → noImmO g → noImmO g1 := by first | exact fun _ h => h | (intro e; cases e)) :
    g1 ci = some es ∧ g1 o = g o ∧ Ok1 kv' ∧ ∃ g2 es2 ow2, stH 1 j 3 [kv'] (some es) = some es2 ∧ updO g1 ci (some es2) = g2 ∧ VW k Z A B pre o (setC h j c') n' g2 ow2 ci es2 sv j c' tv kv' ∧ ∀ id, id ≠ n → ow2 id = ow id := by
  have hlt := V.W.lt V.wi
  have hok := V.W.ok
  have h1 : g1 ci = some es := by rw [hg ci (by omega) (fun e => by rw [V.wi] at e; injection e with e; have := congrArg List.length e; simp at this), V.Hc]
  have h2 : g1 o = g o := hg o (by omega) (fun e => by rw [V.W.on] at e; cases e)
  refine ⟨h1, h2, ok1_list hs, ?_⟩
  have em : c'.method = c.method := by rw [← he]
  have ep : c'.pc = c.pc := by rw [← he]
  have et : c'.temps = c.temps := by rw [← he]
  have es' : c'.sender = c.sender := by rw [← he]
  have ed : c'.dead = c.dead := by rw [← he]
  rcases Nat.lt_or_ge n n' with hnl | hge
  · have hn1 : n' = n + 1 := by omega
    subst hn1
    refine ⟨_, _, updW ow n (A ++ [j, 3]), stH_ok V.He ⟨rfl, by simp⟩, rfl, ?_, fun id hid => by simp [updW, hid]⟩
    have hsp : splice [vi c.method, vi c.pc, tv, kv, vi c.sender, .bool c.dead] 3 [kv'] = [vi c'.method, vi c'.pc, tv, kv', vi c'.sender, .bool c'.dead] := by rw [em, ep, es', ed]; rfl
    rw [hsp]
    have K := fresh_up V hg
    refine V.set hn rfl (K.mono fun id q _ h => jq h) h2 ?_ (fun id q hq => ?_) (fun id hid => ?_) (fun hp => hni hp (V.W.ni hp)) ?_ hs
    · simp only [updW]; rw [if_neg (by omega)]; exact V.W.on
    · simp only [updW] at hq
      split at hq
      · rename_i e; subst e; injection hq with hq; subst hq; exact ⟨V.W.kn, by omega, .inl (List.prefix_append _ _)⟩
      · have := V.W.f id q hq; exact ⟨this.1, by omega, this.2.2⟩
    · have := V.W.kn
      rw [hg id (by omega) (fun e => by have := (V.W.f id _ e).1; omega)]; exact V.W.z id hid
    · rw [et]; exact V.t.mono (K.mono fun id q _ h => pre_ne3 (p := A ++ [j]) (u := []) (v := []) (by decide : 2 ≠ 3) (by simpa using h) |> fun h' => by simpa using h')
  · have hn1 : n' = n := by omega
    subst hn1
    have := hnn rfl
    subst this
    refine ⟨_, _, ow, stH_ok V.He ⟨rfl, by simp⟩, rfl, ?_, fun _ _ => rfl⟩
    have hsp : splice [vi c.method, vi c.pc, tv, kv, vi c.sender, .bool c.dead] 3 [.nils] = [vi c'.method, vi c'.pc, tv, .nils, vi c'.sender, .bool c'.dead] := by rw [em, ep, es', ed]; rfl
    rw [hsp]
    have hsl : c'.stack = [] := by
      have hx := hs
      rcases hx.flat (sVal _) with ⟨e, _⟩ | ⟨_, id, e, _, _⟩
      · exact List.map_eq_nil_iff.1 e
      · cases e
    have K : Keep g ow g1 ow (fun id q => ¬ A ++ [j, 3] <+: q) := fun id q hid hq => by
      have hlt := V.W.lt hid
      exact ⟨fun e he => by rw [hg id (by omega) (fun e => by rw [hid] at e; injection e with e; subst e; exact hq (List.prefix_refl _))]; exact he, hid⟩
    refine V.set hn rfl (K.mono fun id q _ h => jq h) h2 V.W.on V.W.f (fun id hid => ?_) (fun hp => hni hp (V.W.ni hp)) ?_ (by rw [hsl]; exact .nil _)
    · have := V.W.kn
      rw [hg id (by omega) (fun e => by have := (V.W.f id _ e).1; omega)]; exact V.W.z id hid
    · rw [et]; exact V.t.mono (K.mono fun id q _ h => pre_ne3 (p := A ++ [j]) (u := []) (v := []) (by decide : 2 ≠ 3) (by simpa using h) |> fun h' => by simpa using h')
/-- A value more on its stack. -/
theorem VW.push (V : VW k Z A B pre o h n g ow ci es sv j c tv kv) (hl : c.stack.length ≤ 2097152) (x : GVal) :
    ∃ g1, appV 2 16 kv (.list [[vi x.kind, vi x.num]]) ⟨n, g⟩ = some (.slice n 0 (c.stack.length + 1), ⟨n + 1, g1⟩) ∧ g1 ci = some es ∧ g1 o = g o ∧ ∃ g2 es2 ow2 kv2, stH 1 j 3 [.slice n 0 (c.stack.length + 1)] (some es) = some es2 ∧ updO g1 ci (some es2) = g2 ∧
      VW k Z A B pre o (setC h j { c with stack := c.stack ++ [x] }) (n + 1) g2 ow2 ci es2 sv j { c with stack := c.stack ++ [x] } tv kv2 := by
  obtain ⟨g1, h1, h2, h3, hni⟩ := app_one (n := n) V.s (Nat.le_trans hl (by decide)) x
  have hs : Own g1 (updW ow n (A ++ [j, 3])) (A ++ [j, 3]) (lVal (c.stack ++ [x])) (.slice n 0 (c.stack ++ [x]).length) := own_new (by simp) (by simp [updW]) h2
  obtain ⟨a1, a2, _, g2, es2, ow2, a4, a5, a6, _⟩ := V.stk { c with stack := c.stack ++ [x] } (by omega) (Nat.le_refl _) h3 hs (by omega) rfl (fun _ => hni)
  exact ⟨g1, h1, a1, a2, g2, es2, ow2, _, by simpa using a4, a5, a6⟩
/-- Something more is said. -/
theorem HW.said (W : HW k Z A B pre o h n g ow cv sv) (hl : h.said.length ≤ 4294967296) (x : GVal) :
    ∃ g1, appV 2 16 sv (.list [[vi x.kind, vi x.num]]) ⟨n, g⟩ = some (.slice n 0 (h.said.length + 1), ⟨n + 1, g1⟩) ∧ g1 o = some [pre ++ [cv, vi h.now, vi h.born, sv, vi h.code]] ∧
      ∃ g2 ow2, updO g1 o (some [pre ++ [cv, vi h.now, vi h.born, .slice n 0 (h.said.length + 1), vi h.code]]) = g2 ∧ HW k Z A B pre o { h with said := h.said ++ [x] } (n + 1) g2 ow2 cv (.slice n 0 (h.said.length + 1)) := by
  obtain ⟨g1, h1, h2, h3, hni⟩ := app_one (n := n) W.s hl x
  have hok := W.ok
  have ho : g1 o = g o := h3 o (by omega) (by rw [W.on]; intro e; cases e)
  refine ⟨g1, h1, by rw [ho]; exact W.Ho, _, updW ow n B, rfl, ?_⟩
  have K : Keep g ow (updO g1 o (some [pre ++ [cv, vi h.now, vi h.born, .slice n 0 (h.said.length + 1), vi h.code]])) (updW ow n B) (fun id q => ¬ B <+: q) := by
    intro id q hid hq
    have hlt := W.lt hid
    refine ⟨fun e he => ?_, ?_⟩
    · simp only [updO]
      rw [if_neg (fun e => by rw [e, W.on] at hid; cases hid), h3 id (by omega) (fun e => by rw [hid] at e; injection e with e; subst e; exact hq (List.prefix_refl _))]; exact he
    · simp only [updW]; rw [if_neg (by omega)]; exact hid
  refine ⟨W.dj, by simp [updO], by simp only [updW]; rw [if_neg (by omega)]; exact W.on, ⟨W.ok.1, by omega⟩, W.c.mono (K.mono fun id q _ h h' => W.dj q h h'), ?_, fun id q hq => ?_, fun id hid => ?_, fun hp => ni_upd (hni (W.ni hp)) (fun e he c hc => ?_)⟩
  · have := own_new (g := updO g1 o (some [pre ++ [cv, vi h.now, vi h.born, .slice n 0 (h.said.length + 1), vi h.code]])) (ow := updW ow n B) (q := B) (id := n) (l := h.said ++ [x]) (by simp) (by simp [updW]) (by simp only [updO]; rw [if_neg (by omega)]; exact h2)
    simpa using this
  · simp only [updW] at hq
    split at hq
    · rename_i e; subst e; injection hq with hq; subst hq; exact ⟨W.kn, by omega, .inr (List.prefix_refl _)⟩
    · have := W.f id q hq; exact ⟨this.1, by omega, this.2.2⟩
  · simp only [updO]
    rw [if_neg (by omega), h3 id (by have := W.kn; omega) (fun e => by have := (W.f id _ e).1; omega)]; exact W.z id hid
  · subst hp
    simp at he; subst he; simp at hc
    rcases hc with rfl | rfl | rfl | rfl | rfl
    · exact own_ni W.c
    · rfl
    · rfl
    · rfl
    · rfl
/-- One call more. -/
theorem HW.enter (W : HW k Z A B pre o h n g ow cv sv) (hl : h.calls.length ≤ 2097152) (c' : GCall) {n1 : Nat} {g1 : Heap'} {o1 : Ow} {tv' kv' : AVal} (hn : n ≤ n1) (hg : ∀ id, id < n → g1 id = g id) (hf : ∀ id q, o1 id = some q → n ≤ id ∧ id < n1 ∧ A ++ [h.calls.length] <+: q) (hni : pre = [] → noImmO g → noImmO g1)
    (ht : Own g1 o1 (A ++ [h.calls.length, 2]) (lVal c'.temps) tv') (hs : Own g1 o1 (A ++ [h.calls.length, 3]) (lVal c'.stack) kv') :
    ∃ g2, appV 6 80 cv (.list [[vi c'.method, vi c'.pc, tv', kv', vi c'.sender, .bool c'.dead]]) ⟨n1, g1⟩ = some (.slice n1 0 (h.calls.length + 1), ⟨n1 + 1, g2⟩) ∧ g2 o = some [pre ++ [cv, vi h.now, vi h.born, sv, vi h.code]] ∧
      ∃ g3 ow3, updO g2 o (some [pre ++ [.slice n1 0 (h.calls.length + 1), vi h.now, vi h.born, sv, vi h.code]]) = g3 ∧ HW k Z A B pre o { h with calls := h.calls ++ [c'] } (n1 + 1) g3 ow3 (.slice n1 0 (h.calls.length + 1)) sv := by
  have hok := W.ok
  have W1 : HW k Z A B pre o h n1 g1 ow cv sv := W.keep hn hg hni
  have ho1 := W1.Ho
  have hrn : ∀ x ∈ [vi c'.method, vi c'.pc, tv', kv', vi c'.sender, .bool c'.dead], noImm x = true := by
    intro x hx
    simp only [List.mem_cons, List.not_mem_nil, or_false] at hx
    rcases hx with rfl | rfl | rfl | rfl | rfl | rfl
    · rfl
    · rfl
    · exact own_ni ht
    · exact own_ni hs
    · rfl
    · rfl
  -- what the append makes
  have key : ∃ es0, es0.length = h.calls.length ∧ (∀ (i : Nat) c, h.calls[i]? = some c → ∃ row, es0[i]? = some row ∧ RowR g1 ow A i 0 (eCall c) row) ∧
      ∃ g2, appV 6 80 cv (.list [[vi c'.method, vi c'.pc, tv', kv', vi c'.sender, .bool c'.dead]]) ⟨n1, g1⟩ = some (.slice n1 0 (h.calls.length + 1), ⟨n1 + 1, g2⟩) ∧
        g2 n1 = some (es0 ++ [[vi c'.method, vi c'.pc, tv', kv', vi c'.sender, .bool c'.dead]]) ∧ (∀ id, id ≠ n1 → ow id ≠ some A → g2 id = g1 id) ∧ (noImmO g1 → noImmO g2) := by
    rcases W1.c.list_inv with ⟨e, rfl⟩ | ⟨hne, id, es, rfl, h2, h3, h4, h5⟩
    · have e := List.map_eq_nil_iff.1 e
      refine ⟨[], by simp [e], fun i c hi => (by rw [e] at hi; cases hi), updO g1 n1 (some [[vi c'.method, vi c'.pc, tv', kv', vi c'.sender, .bool c'.dead]]), ?_, by simp [updO], fun id hid _ => by simp [updO, hid], fun hn => ni_upd hn (fun e he c hc => by rw [List.mem_singleton] at he; subst he; exact hrn c hc)⟩
      simp [appV, srcOf, maxA, e]
    · have h4' : es.length = h.calls.length := by simpa using h4
      refine ⟨es, h4', fun i c hi => h5 i (eCall c) (by simp [hi]), updO (updO g1 id none) n1 (some (es ++ [[vi c'.method, vi c'.pc, tv', kv', vi c'.sender, .bool c'.dead]])), ?_, by simp [updO], fun id' hid hw' => ?_, fun hn => ni_upd (ni_none hn) (fun e he c hc => ?_)⟩
      · have hb : (h.calls.length + 1) * 80 ≤ 1099511627776 := by omega
        have hm : es ≠ [] := fun e => hne (List.eq_nil_of_length_eq_zero (by rw [← h4, e]; rfl))
        have hw : ∀ e ∈ es, e.length = 6 := by
          intro e he
          obtain ⟨i, hi, rfl⟩ := List.mem_iff_getElem.1 he
          obtain ⟨row, hr, hrow⟩ := h5 i (eCall (h.calls[i]'(by omega))) (by rw [List.getElem?_map, List.getElem?_eq_getElem (by omega)]; rfl)
          rw [List.getElem?_eq_getElem hi] at hr
          injection hr with hr
          rw [hr, (RowR.iff.1 hrow).1]; rfl
        simp [appV, srcOf, h3, h4', hm, hw, maxA, hb]
        exact hw
      · simp only [updO]
        rw [if_neg hid, if_neg]
        rintro rfl
        exact hw' h2
      · rcases List.mem_append.1 he with he | he
        · exact hn id es h3 e he c hc
        · rw [List.mem_singleton] at he; subst he; exact hrn c hc
  obtain ⟨es0, hl0, hr0, g2, a1, a2, a3, a4⟩ := key
  have ho2 : g2 o = g1 o := a3 o (by omega) (by rw [W.on]; intro e; cases e)
  refine ⟨g2, a1, by rw [ho2]; exact ho1, _, updW (joinW n ow o1) n1 A, rfl, ?_⟩
  generalize hg3 : updO g2 o (some [pre ++ [.slice n1 0 (h.calls.length + 1), vi h.now, vi h.born, sv, vi h.code]]) = g3
  have hl' : ∀ id q, ow id = some q → id < n := fun id q hq => W.lt hq
  have same : ∀ id, id ≠ n1 → id ≠ o → ow id ≠ some A → g3 id = g1 id := fun id h1 h2 h3 => by rw [← hg3]; simp only [updO]; rw [if_neg h2]; exact a3 id h1 h3
  have K : Keep g1 ow g3 (updW (joinW n ow o1) n1 A) (fun id q => q ≠ A) := by
    intro id q hid hq
    have hlt := hl' id q hid
    refine ⟨fun e he => ?_, ?_⟩
    · rw [same id (by omega) (fun e => by rw [e, W.on] at hid; cases hid) (fun e => by rw [hid] at e; injection e with e; exact hq e)]; exact he
    · simp only [updW, joinW]; rw [if_neg (by omega), if_pos hlt]; exact hid
  have K1 : Keep g1 o1 g3 (updW (joinW n ow o1) n1 A) (fun _ _ => True) := by
    intro id q hid _
    have := hf id q hid
    refine ⟨fun e he => ?_, ?_⟩
    · rw [same id (by omega) (by omega) (fun e => by have := hl' id _ e; omega)]; exact he
    · simp only [updW, joinW]; rw [if_neg (by omega), if_neg (by omega)]; exact hid
  have hA : ∀ (i c : Nat) (q : List Nat), A ++ [i, c] <+: q → q ≠ A := fun i c q h1 e => by subst e; have := h1.length_le; simp at this; omega
  refine ⟨W.dj, by rw [← hg3]; simp [updO], ?_, ⟨W.ok.1, by omega⟩, ?_, W1.s.mono (K.mono fun id q _ h1 e => by subst e; exact W.dj _ (List.prefix_refl _) h1), fun id q hq => ?_, fun id hid => ?_, fun hp => ?_⟩
  · simp only [updW, joinW]; rw [if_neg (by omega), if_pos (by omega)]; exact W.on
  · refine Own.mk (es := es0 ++ [[vi c'.method, vi c'.pc, tv', kv', vi c'.sender, .bool c'.dead]]) (by simp) (by simp) (by simp [updW]) (by rw [← hg3]; simp only [updO]; rw [if_neg (by omega)]; exact a2) (by simp [hl0]) (fun i row' row h1 h2 => ?_)
    rcases Nat.lt_or_ge i h.calls.length with hi | hi
    · obtain ⟨row0, b1, b2⟩ := hr0 i _ (List.getElem?_eq_getElem hi)
      rw [List.getElem?_append_left (by omega), b1] at h2
      injection h2 with h2
      subst h2
      rw [List.getElem?_map, List.getElem?_append_left hi, List.getElem?_eq_getElem hi] at h1
      simp only [Option.map_some, Option.some.injEq] at h1
      subst h1
      rw [RowR.iff] at b2 ⊢
      exact ⟨b2.1, fun m a x ha hx => (b2.2 m a x ha hx).mono (K.mono fun id q _ h1 => hA _ _ q h1)⟩
    · have hie : i = h.calls.length := by
        have := (List.getElem?_eq_some_iff.1 h2).1
        simp [hl0] at this; omega
      subst hie
      rw [List.getElem?_append_right (by omega)] at h2
      simp [hl0] at h2
      simp at h1
      subst h1 h2
      exact ⟨.int _ _ _, .int _ _ _, ht.mono (K1.mono fun _ _ _ _ => trivial), hs.mono (K1.mono fun _ _ _ _ => trivial), .int _ _ _, .bool _ _, trivial⟩
  · simp only [updW, joinW] at hq
    split at hq
    · rename_i e; subst e; injection hq with hq; subst hq; exact ⟨by have := W.kn; omega, by omega, .inl (List.prefix_refl _)⟩
    · split at hq
      · have := W.f id q hq; exact ⟨this.1, by omega, this.2.2⟩
      · have := hf id q hq; exact ⟨by have := W.kn; omega, by omega, .inl (pre_up this.2.2)⟩
  · have := W.kn
    rw [same id (by omega) (by omega) (fun e => by have := (W.f id _ e).1; omega)]; exact W1.z id hid
  · rw [← hg3]
    refine ni_upd (a4 (W1.ni hp)) (fun e he c hc => ?_)
    subst hp
    simp at he; subst he; simp at hc
    rcases hc with rfl | rfl | rfl | rfl | rfl
    · rfl
    · rfl
    · rfl
    · exact own_ni W.s
    · rfl
/-- A temp is set. -/
theorem VW.temp (V : VW k Z A B pre o h n g ow ci es sv j c tv kv) (a : Nat) (ha : a < c.temps.length) (x : GVal) :
    ∃ ti ts, tv = .slice ti 0 c.temps.length ∧ g ti = some ts ∧ ts = c.temps.map eVal ∧ ∃ g', updO g ti (some (ts.set a [vi x.kind, vi x.num])) = g' ∧ VW k Z A B pre o (setC h j { c with temps := c.temps.set a x }) n g' ow ci es sv j { c with temps := c.temps.set a x } tv kv := by
  rcases V.t.flat (sVal _) with ⟨e, _⟩ | ⟨hne, ti, rfl, hw, hg⟩
  · have := List.map_eq_nil_iff.1 e; rw [this] at ha; simp at ha
  · refine ⟨ti, _, by simp, hg, rfl, _, rfl, ?_⟩
    have hlt := V.W.lt hw
    have hne' : ti ≠ ci := by rintro rfl; rw [V.wi] at hw; injection hw with e; have := congrArg List.length e; simp at this
    have hno : ti ≠ o := by rintro rfl; rw [V.W.on] at hw; cases hw
    have K : Keep g ow (updO g ti (some ((c.temps.map eVal).set a [vi x.kind, vi x.num]))) ow (fun id q => ¬ A ++ [j, 2] <+: q) := Keep.refl.upd (fun q hq h1 => by rw [hw] at hq; injection hq with e; subst e; exact h1 (List.prefix_refl _))
    have hse : es.set j [vi c.method, vi c.pc, .slice ti 0 (c.temps.map eVal).length, kv, vi c.sender, .bool c.dead] = es := set_self V.He
    have hmap : (c.temps.map eVal).set a [vi x.kind, vi x.num] = (c.temps.set a x).map eVal := by rw [List.map_set]; rfl
    have hX := V.set (c' := { c with temps := c.temps.set a x }) (tv' := .slice ti 0 (c.temps.map eVal).length) (kv' := kv) (n' := n) (g1 := updO g ti (some ((c.temps.map eVal).set a [vi x.kind, vi x.num]))) (ow' := ow) (Nat.le_refl _) rfl (K.mono fun id q _ h => jq h)
      (by simp only [updO]; rw [if_neg (Ne.symm hno)]) V.W.on V.W.f (fun id hid => by simp only [updO]; rw [if_neg (by have := (V.W.f ti _ hw).1; omega)]; exact V.W.z id hid) (fun hp => ni_upd (V.W.ni hp) (ni_set (ni_val _) (fun c hc => by simp at hc; rcases hc with rfl | rfl <;> rfl)))
      (by have h1 := own_new (g := updO g ti (some ((c.temps.map eVal).set a [vi x.kind, vi x.num]))) (ow := ow) (q := A ++ [j, 2]) (id := ti) (l := c.temps.set a x) (by intro e; have := congrArg List.length e; simp only [List.length_set, List.length_nil] at this; omega) hw (by rw [← hmap]; simp [updO])
          simpa using h1)
      (V.s.mono (K.mono fun id q _ h1 h2 => pre_ne3 (p := A ++ [j]) (u := []) (v := []) (by decide : 3 ≠ 2) (by simpa using h1) (by simpa using h2)))
    rw [show es.set j [vi (GCall.method { c with temps := c.temps.set a x }), vi (GCall.pc { c with temps := c.temps.set a x }), .slice ti 0 (c.temps.map eVal).length, kv, vi (GCall.sender { c with temps := c.temps.set a x }), .bool (GCall.dead { c with temps := c.temps.set a x })] = es from hse] at hX
    have hup : updO (updO g ti (some ((c.temps.map eVal).set a [vi x.kind, vi x.num]))) ci (some es) = updO g ti (some ((c.temps.map eVal).set a [vi x.kind, vi x.num])) := by
      funext t
      simp only [updO]
      by_cases h1 : t = ci
      · subst h1; rw [if_pos rfl, if_neg (Ne.symm hne'), V.Hc]
      · rw [if_neg h1]
    rw [hup] at hX
    exact hX
end
end Go.Ai
set_option linter.unusedSimpArgs false
set_option linter.unusedVariables false
namespace Go.Ai
variable {mt : Nat → Nat → Option Nat}
attribute [local simp] cnd_ite gS_ite callBy_whole
/-- What is answered, and the heap that is left. -/
def To (k : Nat) (Z : Heap') (A B : List Nat) (pre : List AVal) (o : Nat) (h' : GHeap) (r : AVal) (x : R) : Prop := ∃ n' g' ow' cv' sv', x = some (r, ⟨n', g'⟩) ∧ HW k Z A B pre o h' n' g' ow' cv' sv'
abbrev preS (p : GProg) : List AVal := [lMethod p]
section
variable {k n : Nat} {Z : Heap'} {A B : List Nat} {p : GProg} {o : Nat} {h : GHeap} {g : Heap'} {ow : Ow} {cv sv : AVal}
variable {ci : Nat} {es : Obj'} {j : Nat} {c : GCall} {tv kv : AVal}
theorem s_116 (V : VW k Z A B (preS p) o h n g ow ci es sv j c tv kv) (h0 : 0 ≤ h.now) (hj : h.now.toNat = j) : run AP mt 116 [.ptr o 0 0] ⟨n, g⟩ = some (.ptr ci j 0, ⟨n, g⟩) := by
  rw [run_evS AP_116 _ _ rfl]
  simp [c_116, V.W.Ho, V.ix h0 hj]
theorem s_140 (V : VW k Z A B (preS p) o h n g ow ci es sv j c tv kv) (x : Int) (h0 : 0 ≤ x) (hj : x.toNat = j) : ∃ ow' es' g', run AP mt 140 [.ptr o 0 0, vi x] ⟨n, g⟩ = some (.tuple [], ⟨n, g'⟩) ∧ VW k Z A B (preS p) o (setC h j (deadC c)) n g' ow' ci es' sv j (deadC c) tv .nils := by
  obtain ⟨g1, es1, a1, b1, V1⟩ := V.row { c with dead := true } kv (off := 5) (x := .bool true) rfl (by omega) rfl V.s
  obtain ⟨g2, es2, a2, b2, V2⟩ := V1.row { c with dead := true, stack := [] } .nils (off := 3) (x := .nils) rfl (by omega) rfl (.nil _)
  obtain ⟨g3, es3, a3, b3, V3⟩ := V2.row (deadC c) .nils (off := 4) (x := vi (-1)) rfl (by omega) rfl (.nil _)
  refine ⟨_, _, g3, ?_, by simpa [setC] using V3⟩
  rw [run_evS AP_140 _ _ rfl]
  simp [c_140, V.W.Ho, V.ix h0 hj, V.Hc, a1, b1, V1.Hc, a2, b2, V2.Hc, a3, b3]
theorem stH_root {off : Nat} {x : AVal} {row : List AVal} : stH 1 0 off [x] (some [row]) = if off + 1 ≤ row.length then some [splice row off [x]] else none := by simp [stH]
theorem s_133 (W : HW k Z A B (preS p) o h n g ow cv sv) (hl : h.said.length ≤ 4294967296) (v : GVal) (hv : v.kind = 2 → 0 ≤ v.num ∧ v.num < h.calls.length) : To k Z A B (preS p) o (sayS h v) (.tuple []) (run AP mt 133 [.ptr o 0 0, aVal v] ⟨n, g⟩) := by
  obtain ⟨g1, a1, a2, g2, ow2, a3, W2⟩ := W.said hl (toldV h v)
  simp only [List.cons_append, List.nil_append] at a2 a3
  rw [run_evS AP_133 _ _ rfl]
  have hs := ok1_list W.s
  by_cases h2 : v.kind = 2
  · obtain ⟨b0, b1⟩ := hv h2
    obtain ⟨c, hc⟩ : ∃ c, h.calls[v.num.toNat]? = some c := ⟨_, List.getElem?_eq_getElem (by omega)⟩
    obtain ⟨ci, es, tv, kv, rfl, V⟩ := W.view hc
    have ht : toldV h v = ⟨2, c.method⟩ := by simp [toldV, h2, hc]
    rw [ht] at a1
    simp [c_133, h2, W.Ho, V.ix b0 rfl, V.Hc, V.He, a1, a2, stH_root, a3, hs.k, hs.g, hs.p, hs.c]
    exact ⟨_, _, _, _, _, rfl, W2⟩
  · have ht : toldV h v = v := by simp [toldV, h2]
    rw [ht] at a1
    simp [c_133, h2, W.Ho, a1, a2, stH_root, a3, hs.k, hs.g, hs.p, hs.c]
    exact ⟨_, _, _, _, _, rfl, W2⟩
/-- The lists of the calls are short. -/
def ShC (h : GHeap) : Prop := ∀ c ∈ h.calls, c.temps.length ≤ 2097152 ∧ c.stack.length ≤ 2097152
theorem sh_set {h : GHeap} (hh : ShC h) {i : Nat} {c : GCall} (hc : c.temps.length ≤ 2097152 ∧ c.stack.length ≤ 2097152) : ShC (setC h i c) := by
  intro d hd
  rcases List.mem_or_eq_of_mem_set hd with hd | rfl
  · exact hh d hd
  · exact hc
theorem leave_eq {h : GHeap} {c : GCall} (hc : h.calls[h.now.toNat]? = some c) : leaveS h = { setC h h.now.toNat (deadC c) with now := c.sender } := by unfold leaveS dieS; rw [hc]
theorem sh_leave {h : GHeap} (hh : ShC h) : ShC (leaveS h) := by
  cases hc : h.calls[h.now.toNat]? with
  | none => unfold leaveS; rw [hc]; exact hh
  | some c =>
    rw [leave_eq hc]
    exact sh_set hh (i := h.now.toNat) (c := deadC c) ⟨(hh c (List.mem_of_getElem? hc)).1, by simp [deadC]⟩
theorem leave_said (h : GHeap) : (leaveS h).said = h.said := by
  cases hc : h.calls[h.now.toNat]? with
  | none => unfold leaveS; rw [hc]
  | some c => rw [leave_eq hc]; rfl
theorem leave_len (h : GHeap) : (leaveS h).calls.length = h.calls.length := by
  cases hc : h.calls[h.now.toNat]? with
  | none => unfold leaveS; rw [hc]
  | some c => rw [leave_eq hc]; simp
theorem push_eq {h : GHeap} {v : GVal} {c : GCall} (hc : h.calls[h.now.toNat]? = some c) : pushS h v = setC h h.now.toNat { c with stack := c.stack ++ [v] } := by unfold pushS; rw [hc]
theorem s_130 (V : VW k Z A B (preS p) o h n g ow ci es sv h.now.toNat c tv kv) (hh : ShC h) (hsd : h.said.length ≤ 4294967296) (h0 : 0 ≤ h.now) (v : GVal) (hv : v.kind = 2 → 0 ≤ v.num ∧ v.num < h.calls.length) (hs : c.sender < h.calls.length) :
    To k Z A B (preS p) o (retS' h v) (.tuple []) (run AP mt 130 [.ptr o 0 0, aVal v] ⟨n, g⟩) := by
  obtain ⟨ow1, es1, g1, a1, V1⟩ := s_140 (mt := mt) V h.now h0 rfl
  have hl := leave_eq V.hj
  obtain ⟨g2, a2, a3, V2⟩ := V1.root (h' := { setC h h.now.toNat (deadC c) with now := c.sender }) (off := 2) (x := vi c.sender) rfl (by simp) rfl rfl
  rw [← hl] at V2
  simp at a2
  have hln := leave_len h
  have hnow : (leaveS h).now = c.sender := by rw [hl]
  have h116 := s_116 (mt := mt) V h0 rfl
  have o1 := V1.W.Ho
  simp at o1
  rw [run_evS AP_130 _ _ rfl]
  by_cases hneg : c.sender < 0
  · have hr : retS' h v = { sayS (leaveS h) v with code := 1 } := by unfold retS'; simp only [hnow, if_pos hneg]
    obtain ⟨n3, g3, ow3, cv3, sv3, b1, W3⟩ := s_133 (mt := mt) V2.W (by rw [leave_said]; exact hsd) v (by rw [hln]; exact hv)
    obtain ⟨g4, b2, _, W4, _⟩ := W3.root (h' := { sayS (leaveS h) v with code := 1 }) (off := 5) (x := vi 1) rfl (by simp) rfl rfl
    simp at b2
    rw [hr]
    simp [c_130, h116, V.Hc, V.He, V.W.Ho, a1, o1, stH_root, a2, hneg, b1, W3.Ho, b2]
    exact ⟨_, _, _, _, _, rfl, W4⟩
  · have hr : retS' h v = pushS (leaveS h) v := by unfold retS'; simp only [hnow, if_neg hneg]
    obtain ⟨d, hd⟩ : ∃ d, (leaveS h).calls[c.sender.toNat]? = some d := ⟨_, List.getElem?_eq_getElem (by omega)⟩
    obtain ⟨tv2, kv2, V3⟩ := V2.other hd
    have h116' := s_116 (mt := mt) V3 (by rw [hnow]; omega) (by rw [hnow])
    obtain ⟨g4, b1, b2, b3, g5, es5, ow5, kv5, b4, b5, V5⟩ := V3.push (sh_leave hh d (List.mem_of_getElem? hd)).2 v
    rw [hr, push_eq (c := d) (by rw [hnow]; exact hd), hnow]
    have hk := ok1_list V3.s
    simp [c_130, h116, V.Hc, V.He, V.W.Ho, a1, o1, stH_root, a2, hneg, h116', V3.Hc, V3.He, b1, b2, b4, b5, hk.k, hk.g, hk.p]
    exact ⟨_, _, _, _, _, rfl, V5.W⟩
end
end Go.Ai
set_option linter.unusedSimpArgs false
set_option linter.unusedVariables false
namespace Go.Ai
variable {mt : Nat → Nat → Option Nat}
attribute [local simp] cnd_ite gS_ite callBy_whole
/-- A list of values of its own, in what was made since k. -/
def FlV (k m : Nat) (l : List GVal) (v : AVal) (g : Heap') : Prop :=
  ((l = [] ∧ v = .nils) ∨ (l ≠ [] ∧ ∃ id, k ≤ id ∧ id < m ∧ v = .slice id 0 l.length ∧ g id = some (l.map eVal))) ∧ k ≤ m ∧ ∀ id, id < k → g id = none
theorem FlV.own {k m : Nat} {l : List GVal} {v : AVal} {g : Heap'} (h : FlV k m l v g) (q : List Nat) : ∃ ow, Own g ow q (lVal l) v ∧ ∀ id s, ow id = some s → k ≤ id ∧ id < m ∧ q <+: s := by
  obtain ⟨h1, h2, h3⟩ := h
  rcases h1 with ⟨rfl, rfl⟩ | ⟨hne, id, a1, a2, rfl, a4⟩
  · exact ⟨fun _ => none, .nil _, fun id s h => (by cases h)⟩
  · refine ⟨fun t => if t = id then some q else none, own_new hne (by simp) a4, fun t s h => ?_⟩
    dsimp only at h
    split at h
    · rename_i e; subst e; injection h with h; subst h; exact ⟨a1, a2, List.prefix_refl _⟩
    · cases h
theorem FlV.ok {k m : Nat} {l : List GVal} {v : AVal} {g : Heap'} (h : FlV k m l v g) : Ok1 v := by
  obtain ⟨ow, h1, _⟩ := h.own []
  exact ok1_list h1
theorem FlV.one {k m : Nat} {l : List GVal} {v : AVal} {g : Heap'} (h : FlV k m l v g) (hl : l.length ≤ 2097152) (x : GVal) : ∃ g1, appV 2 16 v (.list [[vi x.kind, vi x.num]]) ⟨m, g⟩ = some (.slice m 0 (l.length + 1), ⟨m + 1, g1⟩) ∧ FlV k (m + 1) (l ++ [x]) (.slice m 0 (l.length + 1)) g1 := by
  obtain ⟨ow, h1, h2⟩ := h.own []
  obtain ⟨g1, a1, a2, a3, _⟩ := app_one (n := m) h1 (Nat.le_trans hl (by decide)) x
  refine ⟨g1, a1, .inr ⟨by simp, m, h.2.1, by omega, by simp, a2⟩, by have := h.2.1; omega, fun id hid => ?_⟩
  rw [a3 id (by have := h.2.1; omega) (fun e => by have := (h2 id _ e).1; omega)]; exact h.2.2 id hid
/-- Values that are answered owned. -/
def OutV (k : Nat) (l : List GVal) (x : R) : Prop := ∃ v m g, x = some (v, ⟨m, g⟩) ∧ FlV k m l v g
theorem s_114 (x : Int) (hx : x ≤ 1000) (k : Nat) : OutV k (List.replicate x.toNat v0) (run AP mt 114 [vi x] ⟨k, noObj⟩) := by
  rw [run_evS AP_114 _ _ rfl]
  simp [c_114]
  refine loop_for (OutV k (List.replicate x.toNat v0)) x.toNat (fun i (v : AVal) => upd (upd (upd fr0 4 (vi i)) 3 v) 0 (vi x)) (fun i v G => FlV k G.next (List.replicate i v0) v G.obj) (fun _ _ _ => u_114_0) ?_ ?_ x.toNat 0 .nils ⟨k, noObj⟩ (by omega) ⟨.inl ⟨rfl, rfl⟩, Nat.le_refl _, fun _ _ => rfl⟩
  · rintro v ⟨m, g⟩ hv
    have hc : ¬ (max x 0 < x) := by omega
    have hk := hv.ok
    simp [b_114_0, hc, hk.k, hk.p, hk.g]
    exact ⟨v, m, g, rfl, hv⟩
  · rintro i v ⟨m, g⟩ hi hv next
    have hc : (i : Int) < x := by omega
    have hk := hv.ok
    have hwr : IntKind.i64.wrap ((i : Int) + 1) = (i : Int) + 1 := wrap_id (by omega) (by omega)
    obtain ⟨g1, a1, a2⟩ := hv.one (by simp; omega) v0
    simp only [v0] at a1
    rw [List.length_replicate] at a1 a2
    simp [b_114_0, hc, hk.k, hk.p, hk.g, a1, hwr]
    simpa using next (.slice m 0 (i + 1)) ⟨m + 1, g1⟩ (by rw [List.replicate_succ']; exact a2)
/-- A call, its lists made since k. -/
def OutC (k : Nat) (c : GCall) (x : R) : Prop := ∃ tv kv m g, x = some (.agg [vi c.method, vi c.pc, tv, kv, vi c.sender, .bool c.dead], ⟨m, g⟩) ∧ k ≤ m ∧ (∀ id, id < k → g id = none) ∧
  ∀ p, ∃ ow, Own g ow (p ++ [2]) (lVal c.temps) tv ∧ Own g ow (p ++ [3]) (lVal c.stack) kv ∧ ∀ id s, ow id = some s → k ≤ id ∧ id < m ∧ p <+: s
theorem app_many {g : Heap'} {ow : Ow} {q : List Nat} {l l2 : List GVal} {v y : AVal} {n : Nat} (h : Own g ow q (lVal l) v) (hs : srcOf g y = some (l2.map eVal)) (hl : l.length + l2.length ≤ 2097152) :
    ∃ n' g1 v', appV 2 16 v y ⟨n, g⟩ = some (v', ⟨n', g1⟩) ∧ n ≤ n' ∧ ((l ++ l2 = [] ∧ v' = .nils) ∨ (l ++ l2 ≠ [] ∧ n' = n + 1 ∧ v' = .slice n 0 (l ++ l2).length ∧ g1 n = some ((l ++ l2).map eVal))) ∧ ∀ id, id ≠ n → ow id ≠ some q → g1 id = g id := by
  rcases h.flat (sVal l) with ⟨e, rfl⟩ | ⟨hne, id, rfl, hw, hg⟩
  · have e := List.map_eq_nil_iff.1 e
    subst e
    obtain ⟨n', g1, v', a1, a2⟩ := app_new (g := g) (n := n) hs (by simpa using hl)
    refine ⟨n', g1, v', a1, ?_⟩
    rcases a2 with ⟨rfl, rfl, rfl, rfl⟩ | ⟨hne, rfl, rfl, rfl⟩
    · exact ⟨Nat.le_refl _, .inl ⟨rfl, rfl⟩, fun _ _ _ => rfl⟩
    · exact ⟨by omega, .inr ⟨by simpa using hne, rfl, by simp, by simp [updO]⟩, fun id hid _ => by simp [updO, hid]⟩
  · have hm : l ≠ [] := fun e => hne (by simp [e])
    have hb : (l.length + l2.length) * 16 ≤ 1099511627776 := by omega
    refine ⟨n + 1, updO (updO g id none) n (some (l.map eVal ++ l2.map eVal)), .slice n 0 (l ++ l2).length, ?_, by omega, .inr ⟨by simp [hm], rfl, rfl, by simp [updO]⟩, fun id' hid hw' => ?_⟩
    · simp [appV, hs, hg, hm, maxA, hb]
    · simp only [updO]
      rw [if_neg hid, if_neg]
      rintro rfl
      exact hw' hw
theorem srcOf_own {g : Heap'} {ow : Ow} {q : List Nat} {l : List GVal} {v : AVal} (h : Own g ow q (lVal l) v) : srcOf g v = some (l.map eVal) := by
  rcases h.flat (sVal l) with ⟨e, rfl⟩ | ⟨hne, id, rfl, hw, hg⟩
  · rw [e]; rfl
  · have : (l.map eVal).take l.length = l.map eVal := List.take_of_length_le (by simp)
    simp [srcOf, hg, this]
theorem s_99 (p : GProg) (method : Int) (m : GMethod) (args : List GVal) (sender : Int) (h0 : 0 ≤ method ∧ method < p.length) (hm : p[method.toNat]? = some m) (ht : 0 ≤ m.temps ∧ m.temps ≤ 1000) (ha : args.length ≤ 1000) (k : Nat) :
    OutC k (newC m method args sender) (run AP mt 99 [aProg p, vi method, lVal args, vi sender] ⟨k, noObj⟩) := by
  have hix := fun g => idx_ok (g := g) (k := .i64) (w_Method p) h0.1 (by simpa using h0.2)
  have hwr : IntKind.i64.wrap (m.temps - args.length) = m.temps - args.length := wrap_id (by omega) (by omega)
  obtain ⟨n1, g1, v1, a1, a2⟩ := app_new (g := noObj) (n := k) (y := lVal args) (l := args) rfl (by omega)
  obtain ⟨b1, b2, b3, b4, _⟩ := a2.own (fun _ => none) []
  have hv1 := ok1_list b3
  obtain ⟨v2, m2, g2, c1, c2⟩ := s_114 (mt := mt) (m.temps - args.length) (by omega) n1
  obtain ⟨o2, d1, d2⟩ := c2.own []
  have hv2 := ok1_list d1
  have hF1 : FlV k n1 args v1 g1 := by
    rcases a2 with ⟨rfl, rfl, rfl, rfl⟩ | ⟨hne, rfl, rfl, rfl⟩
    · exact ⟨.inl ⟨rfl, rfl⟩, Nat.le_refl _, fun _ _ => rfl⟩
    · exact ⟨.inr ⟨hne, k, Nat.le_refl _, by omega, rfl, by simp [updO]⟩, by omega, fun id hid => by simp only [updO]; rw [if_neg (by omega)]; rfl⟩
  obtain ⟨o1, e1, e2⟩ := hF1.own []
  have hK := keep_ovr_l (g := g1) (h := g2) (ow := o1) (ow' := o2) (k := n1) (P := fun _ _ => True) (fun id q hq => (e2 id q hq).2.1) c2.2.2
  have hK2 := keep_ovr_r (g := g1) (h := g2) (ow := o1) (ow' := o2) (k := n1) (P := fun _ _ => True) (fun id q hq => (d2 id q hq).1)
  have f1 := e1.mono (hK.mono fun _ _ _ _ => trivial)
  have f2 := d1.mono (hK2.mono fun _ _ _ _ => trivial)
  obtain ⟨n3, g3, v3, h1, h2, h3, h4⟩ := app_many (n := m2) f1 (srcOf_own f2) (by simp; omega)
  have hle : k ≤ m2 := by have := hF1.2.1; have := c2.2.1; omega
  have hz3 : ∀ id, id < k → g3 id = none := by
    intro id hid
    rw [h4 id (by omega) (fun e => ?_)]
    · have := hF1.2.1
      rw [ovr_none (c2.2.2 id (by omega))]; exact hF1.2.2 id hid
    · simp only [joinW] at e
      split at e
      · have := (e2 id _ e).1; omega
      · have := (d2 id _ e).1; have := hF1.2.1; omega
  have hF3 : FlV k n3 (args ++ List.replicate (m.temps - args.length).toNat v0) v3 g3 := by
    refine ⟨?_, by omega, hz3⟩
    rcases h3 with ⟨x1, x2⟩ | ⟨x1, x2, x3, x4⟩
    · exact .inl ⟨x1, x2⟩
    · exact .inr ⟨x1, m2, hle, by omega, x3, x4⟩
  have hv3 := hF3.ok
  have hn1 : n1 ≤ m2 := c2.2.1
  rw [run_evS AP_99 _ _ rfl]
  have hal : callBy (run AP mt) (.alone false false) 114 [vi (m.temps - args.length)] ⟨n1, g1⟩ = some (v2, ⟨m2, ovr g1 g2⟩) := by
    unfold callBy
    have : frzs noObj [vi (m.temps - args.length)] = some [vi (m.temps - args.length)] := rfl
    simp [this, c1, hn1]
  simp [c_99, a1, hix, hm, hwr, hv1.k, hv1.g, hv1.p, hal, hv2.k, hv2.g, hv2.p, h1, hv3.k, hv3.g, hv3.p, hv3.c]
  refine ⟨v3, .nils, n3, g3, rfl, by omega, hz3, fun q => ?_⟩
  obtain ⟨ow, y1, y2⟩ := hF3.own (q ++ [2])
  exact ⟨ow, y1, .nil _, fun id s hs => ⟨(y2 id s hs).1, (y2 id s hs).2.1, pre_up (y2 id s hs).2.2⟩⟩
end Go.Ai
set_option linter.unusedSimpArgs false
set_option linter.unusedVariables false
namespace Go.Ai
variable {mt : Nat → Nat → Option Nat}
attribute [local simp] cnd_ite gS_ite callBy_whole
section
variable {k n : Nat} {Z : Heap'} {A B : List Nat} {p : GProg} {o : Nat} {h : GHeap} {g : Heap'} {ow : Ow} {cv sv : AVal}
variable {ci : Nat} {es : Obj'} {j : Nat} {c : GCall} {tv kv : AVal}
theorem call_99 (p : GProg) (method : Int) (m : GMethod) (args : List GVal) (sender : Int) (h0 : 0 ≤ method ∧ method < p.length) (hm : p[method.toNat]? = some m) (ht : 0 ≤ m.temps ∧ m.temps ≤ 1000) (ha : args.length ≤ 1000) (n : Nat) (g : Heap') (q : List Nat) :
    ∃ tv kv n1 g1 o1, callBy (run AP mt) (.alone false false) 99 [aProg p, vi method, lVal args, vi sender] ⟨n, g⟩ = some (.agg [vi method, vi 0, tv, kv, vi sender, .bool false], ⟨n1, g1⟩) ∧ n ≤ n1 ∧ (∀ id, id < n → g1 id = g id) ∧
      (∀ id s, o1 id = some s → n ≤ id ∧ id < n1 ∧ q <+: s) ∧ Own g1 o1 (q ++ [2]) (lVal (newC m method args sender).temps) tv ∧ Own g1 o1 (q ++ [3]) (lVal (newC m method args sender).stack) kv ∧ Ok1 tv ∧ Ok1 kv := by
  obtain ⟨tv, kv, n1, g1, a1, a2, a3, a4⟩ := s_99 (mt := mt) p method m args sender h0 hm ht ha n
  obtain ⟨o1, b1, b2, b3⟩ := a4 q
  have K := keep_ovr_r (g := g) (h := g1) (ow := fun _ => none) (ow' := o1) (k := n) (P := fun _ _ => True) (fun id q hq => (b3 id q hq).1)
  have K' : Keep g1 o1 (ovr g g1) o1 (fun _ _ => True) := fun id q hq hp => ⟨(K id q hq hp).1, hq⟩
  refine ⟨tv, kv, n1, ovr g g1, o1, ?_, a2, fun id hid => ovr_none (a3 id hid), b3, b1.mono (K'.mono fun _ _ _ _ => trivial), b2.mono (K'.mono fun _ _ _ _ => trivial), ok1_list b1, ok1_list b2⟩
  have hf : frzs noObj [aProg p, vi method, lVal args, vi sender] = some [aProg p, vi method, lVal args, vi sender] := rfl
  unfold callBy
  simp only [newC] at a1
  simp [hf, a1, a2]
theorem s_129 (W : HW k Z A B (preS p) o h n g ow cv sv) (hl : h.calls.length ≤ 1000) (hb : 0 ≤ h.born ∧ h.born ≤ 1000) (method : Int) (m : GMethod) (args : List GVal) (h0 : 0 ≤ method ∧ method < p.length) (hm : p[method.toNat]? = some m) (ht : 0 ≤ m.temps ∧ m.temps ≤ 1000) (ha : args.length ≤ 1000) :
    To k Z A B (preS p) o (callS p h method args) (.tuple []) (run AP mt 129 [.ptr o 0 0, vi method, lVal args] ⟨n, g⟩) := by
  rw [run_evS AP_129 _ _ rfl]
  unfold callS
  by_cases hborn : 30 ≤ h.born
  · rw [if_pos hborn]
    obtain ⟨g1, b1, _, W1, _⟩ := W.root (h' := { h with code := 3 }) (off := 5) (x := vi 3) rfl (by simp) rfl rfl
    simp at b1
    simp [c_129, W.Ho, hborn, stH_root, b1]
    exact ⟨_, _, _, _, _, rfl, W1⟩
  · rw [if_neg hborn, hm]
    obtain ⟨tv, kv, n1, g1, o1, a1, a2, a3, a4, a5, a6, a7, a8⟩ := call_99 (mt := mt) p method m args h.now h0 hm ht ha n g (A ++ [h.calls.length])
    have ho1 : g1 o = g o := a3 o W.ok.2
    obtain ⟨g2, b1, b2, g3, ow3, b3, W3⟩ := W.enter (by omega) (newC m method args h.now) a2 a3 a4 (by intro e; cases e) (by simpa using a5) (by simpa using a6)
    obtain ⟨g4, c1, _, W4, _⟩ := W3.root (h' := { h with calls := h.calls ++ [newC m method args h.now], born := h.born + 1 }) (off := 3) (x := vi (h.born + 1)) rfl (by simp) rfl rfl
    obtain ⟨g5, d1, _, W5, _⟩ := W4.root (h' := { h with calls := h.calls ++ [newC m method args h.now], born := h.born + 1, now := h.calls.length }) (off := 2) (x := vi h.calls.length) rfl (by simp) rfl rfl
    have hc := ok1_list W.c
    have hwr : IntKind.i64.wrap (h.born + 1) = h.born + 1 := wrap_id (by omega) (by omega)
    have hwl : IntKind.i64.wrap (h.calls.length : Int) = h.calls.length := wrap_id (by omega) (by omega)
    simp only [newC] at b1
    simp at b2 b3 c1 d1
    simp [c_129, W.Ho, hborn, stH_root, a1, ho1, b1, b2, b3, hc.k, hc.g, hc.p, a7.k, a7.g, a7.p, a8.k, a8.g, a8.p, W3.Ho, hwr, c1, W4.Ho, hwl, d1]
    exact ⟨_, _, _, _, _, rfl, W5⟩
theorem s_128 (x : Int) : Q mt 128 [vi x] (aVal (numV x)) := by
  refine Q.of rfl (fun k => ?_)
  rw [run_evS AP_128 _ _ rfl]
  simp [c_128]
  exact Gv.some (Nat.le_refl _) rfl
theorem s_139 (b : Bool) : Q mt 139 [.bool b] (aVal (bitV b)) := by
  have q := fun x => s_128 (mt := mt) x
  unfold Q at q
  refine Q.of rfl (fun k => ?_)
  rw [run_evS AP_139 _ _ rfl]
  cases b
  · simp [c_139, q, bitV]
    exact Gv.some (by repeat (first | exact Nat.le_refl _ | apply le_nxt)) rfl
  · simp [c_139, q, bitV]
    exact Gv.some (by repeat (first | exact Nat.le_refl _ | apply le_nxt)) rfl
theorem s_117 (p : GProg) (op : GOp) (hp : p.length ≤ 2097152) : Q mt 117 [aProg p, aOp op] (.tuple [vi (takesS p op).1, vi (takesS p op).2]) := by
  have q := fun a b c => r_55 (mt := mt) a b c
  unfold Q at q
  have hwl : IntKind.i64.wrap ((p.length : Int) - 1) = p.length - 1 := wrap_id (by omega) (by omega)
  refine Q.of rfl (fun k => ?_)
  rw [run_evS AP_117 _ _ rfl]
  unfold takesS
  by_cases h9 : op.kind = 9
  · by_cases hr : inR op.a 0 (p.length - 1) = true
    · have hr' := inR_iff.1 hr
      have hix := fun g => idx_ok (g := g) (k := .i64) (w_Method p) hr'.1 (by simp; omega)
      obtain ⟨m, hm⟩ : ∃ m, p[op.a.toNat]? = some m := ⟨_, List.getElem?_eq_getElem (by omega)⟩
      simp [c_117, h9, q, hwl, hr, hix, hm]
      exact Gv.some (by repeat (first | exact Nat.le_refl _ | apply le_nxt)) rfl
    · simp [c_117, h9, q, hwl, hr]
      exact Gv.some (by repeat (first | exact Nat.le_refl _ | apply le_nxt)) rfl
  · simp [c_117, h9]
    repeat' (first | (exfalso; omega) | exact Gv.some (by repeat (first | exact Nat.le_refl _ | apply le_nxt)) rfl | refine Gv.ite (fun h => ?_) (fun h => ?_) | simp [*])
theorem arg_at {l : List GVal} {i : Nat} (h : i < l.length) : l[i]? = some (arg l i) := by
  rw [List.getElem?_eq_getElem h]; simp [arg, h]
theorem idx_arg (l : List GVal) (i : Nat) (h : i < l.length) (g : Heap') : idxV 2 (lVal l) (.int .i64 (i : Int)) g = some (.iptr (l.map eVal) i 0) := by
  rw [idx_ok (w_Val l) (by omega) (by simpa using h)]; simp
theorem s_118 (op : GOp) (as : List GVal) (hl : (takesS [] op).1 ≤ as.length) : Q mt 118 [aOp op, lVal as] (.bool (kindsS op as)) := by
  refine Q.of rfl (fun k => ?_)
  rw [run_evS AP_118 _ _ rfl]
  have hi0 := fun (h : 0 < as.length) => idx_arg as 0 h
  have hi1 := fun (h : 1 < as.length) => idx_arg as 1 h
  have ha0 := fun (h : 0 < as.length) => arg_at h
  have ha1 := fun (h : 1 < as.length) => arg_at h
  unfold kindsS
  by_cases h5 : op.kind = 5
  · have h2 : 2 ≤ as.length := by simp [takesS, h5] at hl; omega
    have hi0 := hi0 (by omega)
    have hi1 := hi1 (by omega)
    have ha0 := ha0 (by omega)
    have ha1 := ha1 (by omega)
    simp at hi0 hi1
    by_cases hk : (arg as 0).kind = 1
    · simp [c_118, h5, hi0, hi1, ha0, ha1, hk]
      exact Gv.some (Nat.le_refl _) rfl
    · simp [c_118, h5, hi0, hi1, ha0, ha1, hk]
      exact Gv.some (Nat.le_refl _) rfl
  · by_cases hc : op.kind = 12 ∨ op.kind = 13 ∨ op.kind = 17 ∨ op.kind = 18 ∨ op.kind = 14 ∨ op.kind = 15
    · have h1 : 1 ≤ as.length := by rcases hc with h | h | h | h | h | h <;> simp [takesS, h] at hl <;> omega
      have hi0 := hi0 (by omega)
      have ha0 := ha0 (by omega)
      simp at hi0
      simp only [if_neg h5, if_pos hc]
      rcases hc with h | h | h | h | h | h <;>
      · simp [c_118, h, hi0, ha0]
        exact Gv.some (Nat.le_refl _) rfl
    · simp only [if_neg h5, if_neg hc]
      have h12 : ¬ op.kind = 12 := fun h => hc (.inl h)
      have h13 : ¬ op.kind = 13 := fun h => hc (.inr (.inl h))
      have h17 : ¬ op.kind = 17 := fun h => hc (.inr (.inr (.inl h)))
      have h18 : ¬ op.kind = 18 := fun h => hc (.inr (.inr (.inr (.inl h))))
      have h14 : ¬ op.kind = 14 := fun h => hc (.inr (.inr (.inr (.inr (.inl h)))))
      have h15 : ¬ op.kind = 15 := fun h => hc (.inr (.inr (.inr (.inr (.inr h)))))
      simp [c_118, h5, h12, h13, h17, h18, h14, h15]
      exact Gv.some (Nat.le_refl _) rfl
/-- What an operation makes of its values alone. -/
def madeS (op : GOp) (as : List GVal) : Option GVal :=
  if op.kind = 1 then some (numV op.a) else if op.kind = 5 then some (numV (((arg as 0).num + (arg as 1).num).tmod 1000)) else if op.kind = 6 then some (bitV (decide (arg as 0 = arg as 1))) else none
def mkMade (x : Option GVal) : AVal := match x with | some v => .tuple [aVal v, .bool true] | none => .tuple [aVal v0, .bool false]
theorem s_127 (op : GOp) (as : List GVal) (hl : (takesS [] op).1 ≤ as.length) (hn : op.kind = 5 → (0 ≤ (arg as 0).num ∧ (arg as 0).num ≤ 1000000) ∧ 0 ≤ (arg as 1).num ∧ (arg as 1).num ≤ 1000000) : Q mt 127 [aOp op, lVal as] (mkMade (madeS op as)) := by
  have q1 := fun x => s_128 (mt := mt) x
  have q2 := fun x => s_139 (mt := mt) x
  unfold Q at q1 q2
  refine Q.of rfl (fun k => ?_)
  rw [run_evS AP_127 _ _ rfl]
  have hi0 := fun (h : 0 < as.length) => idx_arg as 0 h
  have hi1 := fun (h : 1 < as.length) => idx_arg as 1 h
  have ha0 := fun (h : 0 < as.length) => arg_at h
  have ha1 := fun (h : 1 < as.length) => arg_at h
  unfold madeS
  by_cases h1 : op.kind = 1
  · simp [c_127, h1, q1]
    exact Gv.some (by repeat (first | exact Nat.le_refl _ | apply le_nxt)) rfl
  · by_cases h5 : op.kind = 5
    · have h2 : 2 ≤ as.length := by simp [takesS, h5] at hl; omega
      have hi0 := hi0 (by omega)
      have hi1 := hi1 (by omega)
      have ha0 := ha0 (by omega)
      have ha1 := ha1 (by omega)
      simp at hi0 hi1
      obtain ⟨x0, x1⟩ := hn h5
      have hwr : IntKind.i64.wrap ((arg as 0).num + (arg as 1).num) = (arg as 0).num + (arg as 1).num := wrap_id (by omega) (by omega)
      simp [c_127, h5, q1, hi0, hi1, ha0, ha1, hwr]
      exact Gv.some (by repeat (first | exact Nat.le_refl _ | apply le_nxt)) rfl
    · by_cases h6 : op.kind = 6
      · have h2 : 2 ≤ as.length := by simp [takesS, h6] at hl; omega
        have hi0 := hi0 (by omega)
        have hi1 := hi1 (by omega)
        have ha0 := ha0 (by omega)
        have ha1 := ha1 (by omega)
        simp at hi0 hi1
        have hd : (decide ((arg as 0).kind = (arg as 1).kind) && decide ((arg as 0).num = (arg as 1).num)) = decide (arg as 0 = arg as 1) := by
          rw [Bool.eq_iff_iff]
          simp only [Bool.and_eq_true, decide_eq_true_eq]
          exact ⟨fun ⟨a, b⟩ => by cases h0 : arg as 0; cases h1 : arg as 1; rw [h0, h1] at a b; simp at a b; rw [a, b], fun h => by rw [h]; exact ⟨rfl, rfl⟩⟩
        simp [c_127, h6, q2, hi0, hi1, ha0, ha1, hd]
        exact Gv.some (by repeat (first | exact Nat.le_refl _ | apply le_nxt)) rfl
      · simp [c_127, h1, h5, h6]
        exact Gv.some (by repeat (first | exact Nat.le_refl _ | apply le_nxt)) rfl
end
end Go.Ai
