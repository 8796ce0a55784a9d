/- What is owned, as a tree: a row anywhere in it is another one; a part put elsewhere. Machines: a machine at work in memory, one tree; a bare one. Machines: a twin's call comes to a page; a twin more; a heap moved in. Machines: a twin more; a heap moved in. -/
import Derived.Test.YtffliemhdjcflaaF2
import Derived.Test.YtffliemhdjcflaaD6
set_option linter.unusedSimpArgs false
set_option linter.unusedVariables false
namespace Go.Ai
attribute [local simp] cnd_ite gS_ite callBy_whole
def getA : AVal → List Nat → Option AVal
  | a, [] => some a
  | .list es, i :: c :: q => (es[i]?).bind fun row => (row[c]?).bind fun b => getA b q
  | _, _ => none
def setR : AVal → List Nat → Nat → List AVal → AVal
  | .list es, [], i, r => .list (es.set i r)
  | .list es, j :: c :: q, i, r => match es[j]? with
    | some row => match row[c]? with
      | some b => .list (es.set j (row.set c (setR b q i r)))
      | none => .list es
    | none => .list es
  | a, _, _, _ => a
def lookH (g : Heap') : AVal → List Nat → Option AVal
  | v, [] => some v
  | .slice id 0 _, i :: c :: q => (g id).bind fun es => (es[i]?).bind fun row => (row[c]?).bind fun x => lookH g x q
  | _, _ => none
section
variable {g g' : Heap'} {ow ow' : Ow}
/-- A row, anywhere. -/
def DeepQ (g : Heap') (ow : Ow) (p P : List Nat) (i : Nat) (a v : AVal) (es' : Obj') (row' : List AVal) (q : List Nat) : Prop :=
  ∃ id es row, g id = some es ∧ ow id = some P ∧ es.length = es'.length ∧ es[i]? = some row ∧ RowR g ow P i 0 row' row ∧ lookH g v q = some (.slice id 0 es'.length) ∧
    ∀ (g' : Heap') (ow' : Ow) (row2' row2 : List AVal), g' id = some (es.set i row2) → ow' id = some P → RowR g' ow' P i 0 row2' row2 → Keep g ow g' ow' (fun j s => p <+: s ∧ ¬ (P ++ [i] <+: s) ∧ j ≠ id) → Own g' ow' p (setR a q i row2') v
theorem Own.deep : ∀ (q : List Nat) {p P : List Nat} {a v : AVal} {es' : Obj'} {i : Nat} {row' : List AVal}, Own g ow p a v → P = p ++ q → getA a q = some (.list es') → es'[i]? = some row' → DeepQ g ow p P i a v es' row' q
  | [], p, P, a, v, es', i, row', h, hP, hg, hi => by
    simp only [getA] at hg
    injection hg with hg
    subst hg
    rw [List.append_nil] at hP
    subst hP
    have hil := (List.getElem?_eq_some_iff.1 hi).1
    obtain ⟨id, es, rfl, h2, h3, h4, h5⟩ := h.obj (by intro e; subst e; simp at hil)
    obtain ⟨row, r1, r2⟩ := h5 i row' hi
    refine ⟨id, es, row, h3, h2, h4, r1, r2, rfl, fun g' ow' row2' row2 e1 e2 e3 hk => ?_⟩
    simp only [setR]
    refine Own.setRow h h3 hil e1 e2 e3 (hk.mono (fun j s hj hs => ?_))
    obtain ⟨k, hk1, hk2⟩ := hs
    refine ⟨List.IsPrefix.trans (List.prefix_append _ _) hk2, fun e => ?_, ?_⟩
    · obtain ⟨t1, rfl⟩ := hk2
      obtain ⟨t2, e3⟩ := e
      simp at e3
      exact hk1 e3.1.symm
    · rintro rfl
      rw [h2] at hj
      injection hj with hj
      subst hj
      have := hk2.length_le
      simp at this
      omega
  | [_], p, P, a, v, es', i, row', h, hP, hg, hi => by cases a <;> simp [getA] at hg
  | j :: c :: q, p, P, a, v, es', i, row', h, hP, hg, hi => by
    cases a <;> simp only [getA] at hg <;> first | (cases hg; done) | skip
    rename_i E
    simp only [Option.bind_eq_some_iff] at hg
    obtain ⟨R, hR, b, hb, hg⟩ := hg
    have hjl := (List.getElem?_eq_some_iff.1 hR).1
    have hcl := (List.getElem?_eq_some_iff.1 hb).1
    obtain ⟨id0, E0, rfl, w0, g0, l0, r0⟩ := h.obj (by intro e; subst e; simp at hjl)
    obtain ⟨R0, hR0, hRR⟩ := r0 j R hR
    obtain ⟨x1, hx1, ox1⟩ := hRR.get hb
    rw [Nat.zero_add] at ox1
    have hP2 : P = (p ++ [j, c]) ++ q := by rw [hP]; simp
    obtain ⟨id, es, row, a1, a2, a3, a4, a5, a6, a7⟩ := Own.deep q ox1 hP2 hg hi
    have hne : id0 ≠ id := by
      rintro rfl
      rw [w0] at a2
      injection a2 with a2
      have := congrArg List.length a2
      rw [hP2] at this
      simp at this
    refine ⟨id, es, row, a1, a2, a3, a4, a5, by simp only [lookH, g0, hR0, hx1, Option.bind_some]; exact a6, fun g' ow' row2' row2 e1 e2 e3 hk => ?_⟩
    have hlen : ∀ {s t : List Nat}, s <+: t → s.length ≤ t.length := fun h => h.length_le
    obtain ⟨k1, k2⟩ := hk id0 p w0 ⟨List.prefix_refl _, fun e => (by have := e.length_le; rw [hP2] at this; simp at this; omega), hne⟩
    have hx := a7 g' ow' row2' row2 e1 e2 e3 (hk.mono (fun j' s _ hs => ⟨List.IsPrefix.trans (List.prefix_append _ _) hs.1, hs.2⟩))
    have hRl : R0.length = R.length := (RowR.iff.1 hRR).1
    have hsame : E0.set j (R0.set c x1) = E0 := by
      have e1 : R0.set c x1 = R0 := by
        rw [List.getElem?_eq_some_iff] at hx1
        obtain ⟨hc1, hc2⟩ := hx1
        rw [← hc2]; exact List.set_getElem_self hc1
      rw [e1]
      rw [List.getElem?_eq_some_iff] at hR0
      obtain ⟨hc1, hc2⟩ := hR0
      rw [← hc2]; exact List.set_getElem_self hc1
    have := Own.cell (c := c) (a' := setR b q i row2') (x' := x1) h g0 hR hR0 hcl (g' := g') (ow' := ow') (by rw [hsame]; exact k1 _ g0) k2 hx (hk.mono (fun j' s hj hs => ⟨hs.1, fun e => hs.2.2 (List.IsPrefix.trans (by rw [hP2]; simp) e), fun e => ?_⟩))
    · simpa only [setR, hR, hb] using this
    · subst e
      rw [a2] at hj
      injection hj with hj
      subst hj
      exact hs.2.2 (by rw [hP2]; exact List.prefix_append _ _)
/-- A part under other names. -/
theorem Own.name {p p' : List Nat} {a v : AVal} (h : Own g ow p a v) : (∀ j s, ow j = some (p ++ s) → (∀ es, g j = some es → g' j = some es) ∧ ow' j = some (p' ++ s)) → Own g' ow' p' a v := by
  induction h generalizing p' with
  | int p k n => intro _; exact .int p' k n
  | bool p b => intro _; exact .bool p' b
  | im p x => intro _; exact .im p' x
  | nil p => intro _; exact .nil p'
  | ls p id es es' hne hw hg hl hr hc ih =>
    intro hk
    obtain ⟨h1, h2⟩ := hk id [] (by rw [List.append_nil]; exact hw)
    rw [List.append_nil] at h2
    refine .ls p' id es es' hne h2 (h1 es hg) hl hr (fun i row' row c a x h3 h4 h5 h6 => ih i row' row c a x h3 h4 h5 h6 (fun j s hj => ?_))
    rw [List.append_assoc] at hj ⊢
    exact hk j _ hj
theorem put_other {q A : List Nat} {a v : AVal} {n : Nat} (h : Own g ow A a v) (f : ∀ id s, ow id = some s → id < n) (hA : ¬ A <+: q) (hk : ∀ j, j < n → ow j ≠ some q → g' j = g j) : Own g' (updW ow n q) A a v := by
  refine h.mono (fun j s hj hp => ⟨fun es he => ?_, ?_⟩)
  · rw [hk j (f j s hj) (fun e => by rw [hj] at e; injection e with e; subst e; exact hA hp)]
    exact he
  · have := f j s hj
    simp only [updW]
    rw [if_neg (by omega)]
    exact hj
end
end Go.Ai
set_option linter.unusedSimpArgs false
set_option linter.unusedVariables false
namespace Go.Ai
attribute [local simp] cnd_ite gS_ite callBy_whole
structure MW (k : Nat) (Z : Heap') (o : Nat) (m : GMach) (n : Nat) (g : Heap') (ow : Ow) : Prop where
  t : Own g ow [] (.list [eMach m]) (.slice o 0 1)
  ok : k ≤ o ∧ o < n
  f : ∀ id q, ow id = some q → k ≤ id ∧ id < n
  z : ∀ id, id < k → g id = Z id
section
variable {k n : Nat} {Z : Heap'} {o : Nat} {m : GMach} {g : Heap'} {ow : Ow}
theorem MW.view (W : MW k Z o m n g ow) : ∃ pv ov tv sv, g o = some [[vi m.cells, pv, ov, vi m.now, tv, vi m.born, sv, vi m.code]] ∧ ow o = some [] ∧
    Own g ow [0, 1] (lPage m.pages) pv ∧ Own g ow [0, 2] (lInt m.order) ov ∧ Own g ow [0, 4] (lTwin m.twins) tv ∧ Own g ow [0, 6] (lVal m.said) sv := by
  obtain ⟨id, es, h1, h2, h3, h4, h5⟩ := W.t.obj (by simp)
  injection h1 with h1
  subst h1
  obtain ⟨row, hr, hrow⟩ := h5 0 (eMach m) rfl
  match row, hrow with
  | [x0, x1, x2, x3, x4, x5, x6, x7], ⟨p0, p1, p2, p3, p4, p5, p6, p7, _⟩ =>
    have e0 := own_scal_inv (by rfl) p0
    have e3 := own_scal_inv (by rfl) p3
    have e5 := own_scal_inv (by rfl) p5
    have e7 := own_scal_inv (by rfl) p7
    subst e0 e3 e5 e7
    match es, h4, hr with
    | [r0], _, hr =>
      injection hr with hr
      subst hr
      exact ⟨x1, x2, x4, x6, h3, h2, p1, p2, p4, p6⟩
theorem MW.of {pv ov tv sv : AVal} (ok : k ≤ o ∧ o < n) (f : ∀ id q, ow id = some q → k ≤ id ∧ id < n) (z : ∀ id, id < k → g id = Z id) (Ho : g o = some [[vi m.cells, pv, ov, vi m.now, tv, vi m.born, sv, vi m.code]]) (Wo : ow o = some [])
    (P : Own g ow [0, 1] (lPage m.pages) pv) (O : Own g ow [0, 2] (lInt m.order) ov) (T : Own g ow [0, 4] (lTwin m.twins) tv) (S : Own g ow [0, 6] (lVal m.said) sv) : MW k Z o m n g ow :=
  ⟨Own.mk (by simp) (by simp) Wo Ho (by simp) (fun i r' r h1 h2 => by
    cases i with
    | zero => simp only [List.getElem?_cons_zero, Option.some.injEq] at h1 h2; subst h1 h2; exact ⟨.int _ _ _, P, O, .int _ _ _, T, .int _ _ _, S, .int _ _ _, trivial⟩
    | succ i => simp at h1), ok, f, z⟩
/-- Memory grows. -/
theorem MW.keep (W : MW k Z o m n g ow) {n' : Nat} {g' : Heap'} (hn : n ≤ n') (hg : ∀ id, id < n → g' id = g id) : MW k Z o m n' g' ow := by
  have := W.ok
  refine ⟨W.t.mono (fun j s hj _ => ⟨fun es he => by rw [hg j (W.f j s hj).2]; exact he, hj⟩), ⟨this.1, by omega⟩, fun id q hq => ?_, fun id hid => ?_⟩
  · have := W.f id q hq; omega
  · rw [hg id (by omega)]; exact W.z id hid
/-- A row of it is another one. -/
theorem MW.set (W : MW k Z o m n g ow) (q : List Nat) (i : Nat) {es' : Obj'} {row' : List AVal} (hq : getA (.list [eMach m]) q = some (.list es')) (hr : es'[i]? = some row') :
    ∃ id es row, g id = some es ∧ ow id = some q ∧ es.length = es'.length ∧ es[i]? = some row ∧ RowR g ow q i 0 row' row ∧ (k ≤ id ∧ id < n) ∧ lookH g (.slice o 0 1) q = some (.slice id 0 es'.length) ∧
      ∀ (m' : GMach) (n' : Nat) (g' : Heap') (ow' : Ow) (row2' row2 : List AVal), setR (.list [eMach m]) q i row2' = .list [eMach m'] → n ≤ n' → g' id = some (es.set i row2) → ow' id = some q → RowR g' ow' q i 0 row2' row2 →
        Keep g ow g' ow' (fun j s => ¬ (q ++ [i] <+: s) ∧ j ≠ id) → (∀ j s, ow' j = some s → k ≤ j ∧ j < n') → (∀ j, j < k → g' j = g j) → MW k Z o m' n' g' ow' := by
  obtain ⟨id, es, row, a1, a2, a3, a4, a5, a6, a7⟩ := Own.deep q (P := q) W.t rfl hq hr
  have hok := W.ok
  refine ⟨id, es, row, a1, a2, a3, a4, a5, W.f id q a2, a6, fun m' n' g' ow' row2' row2 e1 e2 e3 e4 e5 e6 e7 e8 => ⟨?_, ⟨hok.1, by omega⟩, e7, fun j hj => by rw [e8 j hj]; exact W.z j hj⟩⟩
  · have := a7 g' ow' row2' row2 e3 e4 e5 (e6.mono (fun j s _ hs => hs.2))
    rw [e1] at this
    exact this
/-- A cell of the struct itself, a scalar. -/
theorem MW.scal (W : MW k Z o m n g ow) {m' : GMach} (hp : m'.pages = m.pages) (ho : m'.order = m.order) (ht : m'.twins = m.twins) (hs : m'.said = m.said) {pv ov tv sv : AVal} (H : g o = some [[vi m.cells, pv, ov, vi m.now, tv, vi m.born, sv, vi m.code]]) :
    MW k Z o m' n (updO g o (some [[vi m'.cells, pv, ov, vi m'.now, tv, vi m'.born, sv, vi m'.code]])) ow := by
  obtain ⟨pv', ov', tv', sv', h1, h2, h3, h4, h5, h6⟩ := W.view
  rw [H] at h1
  injection h1 with h1
  simp only [List.cons.injEq, true_and, and_true] at h1
  obtain ⟨rfl, rfl, rfl, rfl⟩ := h1
  have K : ∀ {q a v}, q ≠ [] → Own g ow q a v → Own (updO g o (some [[vi m'.cells, pv, ov, vi m'.now, tv, vi m'.born, sv, vi m'.code]])) ow q a v := by
    intro q a v hq h
    refine h.mono (Keep.upd Keep.refl (fun s hs hp => ?_))
    rw [h2] at hs
    injection hs with hs
    subst hs
    exact hq (List.prefix_nil.1 hp)
  refine MW.of W.ok W.f (fun id hid => ?_) (pv := pv) (ov := ov) (tv := tv) (sv := sv) (by simp [updO]) h2 (by rw [hp]; exact K (by simp) h3) (by rw [ho]; exact K (by simp) h4) (by rw [ht]; exact K (by simp) h5) (by rw [hs]; exact K (by simp) h6)
  have := W.ok
  simp only [updO]; rw [if_neg (by omega)]; exact W.z id hid
theorem MW.fz (W : MW k Z o m n g ow) {pv ov tv sv : AVal} (H : g o = some [[vi m.cells, pv, ov, vi m.now, tv, vi m.born, sv, vi m.code]]) : frz 6 g pv = some (lPage m.pages) ∧ frz 6 g ov = some (lInt m.order) ∧ frz 6 g tv = some (lTwin m.twins) ∧ frz 6 g sv = some (lVal m.said) ∧ Ok1 pv ∧ Ok1 ov ∧ Ok1 tv ∧ Ok1 sv := by
  obtain ⟨pv', ov', tv', sv', h1, h2, h3, h4, h5, h6⟩ := W.view
  rw [H] at h1
  injection h1 with h1
  simp only [List.cons.injEq, true_and, and_true] at h1
  obtain ⟨rfl, rfl, rfl, rfl⟩ := h1
  exact ⟨h3.frz 6 (by simp [dep]), h4.frz 6 (by simp [dep]), h5.frz 6 (by simp [dep]), h6.frz 6 (by simp [dep]), ok1_list h3, ok1_list h4, ok1_list h5, ok1_list h6⟩
end
def ords (r : Int) (i : Nat) : List Int := (List.range i).map (fun j : Nat => ((j : Int) + 1).tmod r)
def bareM (r c : Int) : GMach := ⟨c, List.replicate r.toNat ⟨-1, []⟩, ords r r.toNat, 0, [], 0, [], 0⟩
section
variable {mt : Nat → Nat → Option Nat}
/-- The parts of a machine without a struct. -/
structure PW (k : Nat) (m : GMach) (n : Nat) (g : Heap') (ow : Ow) (pv ov tv sv : AVal) : Prop where
  kn : k ≤ n
  P : Own g ow [0, 1] (lPage m.pages) pv
  O : Own g ow [0, 2] (lInt m.order) ov
  T : Own g ow [0, 4] (lTwin m.twins) tv
  S : Own g ow [0, 6] (lVal m.said) sv
  f : ∀ id q, ow id = some q → k ≤ id ∧ id < n ∧ q ≠ []
/-- A machine is answered, owned. -/
def OutM (k : Nat) (m : GMach) (F : AVal → AVal) (x : R) : Prop := ∃ pv ov tv sv n g ow, x = some (F (.agg [vi m.cells, pv, ov, vi m.now, tv, vi m.born, sv, vi m.code]), ⟨n, g⟩) ∧ PW k m n g ow pv ov tv sv ∧ ∀ id, id < k → g id = none
def InvB (k : Nat) (r : Int) (i : Nat) (s : AVal × AVal) (G : AG) : Prop := ∃ n g ow, G = ⟨n, g⟩ ∧ k ≤ n ∧ Own g ow [0, 1] (lPage (List.replicate i ⟨-1, []⟩)) s.1 ∧ Own g ow [0, 2] (lInt (ords r i)) s.2 ∧ (∀ id q, ow id = some q → k ≤ id ∧ id < n ∧ q ≠ []) ∧ ∀ id, id < k → g id = none
theorem b_47 (r c : Int) (hr : 1 ≤ r ∧ r ≤ 4) (k : Nat) : OutM k (bareM r c) id (run AP mt 47 [vi r, vi c] ⟨k, noObj⟩) := by
  rw [run_evS AP_47 _ _ rfl]
  simp [c_47]
  have hrr : ((r.toNat : Nat) : Int) = r := by omega
  refine loop_for (OutM k (bareM r c) id) r.toNat (fun i (s : AVal × AVal) => upd (upd (upd (upd (upd fr0 10 (vi i)) 9 (vi r)) 5 (.pbox [vi c, s.1, s.2, vi 0, .nils, vi 0, .nils, vi 0])) 4 (.pbox [vi 0, .nils, .nils, vi 0, .nils, vi 0, .nils, vi 0])) 0 (vi r)) (InvB k r) (fun _ _ _ => u_47_0) ?_ ?_ r.toNat 0 (.nils, .nils) ⟨k, noObj⟩ (by omega) ⟨k, noObj, fun _ => none, rfl, Nat.le_refl _, .nil _, .nil _, fun _ _ h => (by cases h), fun _ _ => rfl⟩
  · rintro ⟨pv, ov⟩ G ⟨n, g, ow, rfl, hk, h1, h2, h3, h4⟩
    have k1 := ok1_list h1
    have k2 := ok1_list h2
    simp [b_47_0, hrr, k1.k, k1.g, k1.p, k1.c, k2.k, k2.g, k2.p, k2.c]
    exact ⟨pv, ov, .nils, .nils, n, g, ow, rfl, ⟨hk, h1, h2, .nil _, .nil _, h3⟩, h4⟩
  · rintro i ⟨pv, ov⟩ G hi ⟨n, g, ow, rfl, hk, h1, h2, h3, h4⟩ next
    have k1 := ok1_list h1
    have k2 := ok1_list h2
    have hc : (i : Int) < r := by omega
    have hwr : IntKind.i64.wrap ((i : Int) + 1) = (i : Int) + 1 := wrap_id (by omega) (by omega)
    have hrn : ¬ r = 0 := by omega
    have hf : ∀ id s, ow id = some s → id < n := fun id s hs => (h3 id s hs).2.1
    simp [b_47_0, hc, k1.k, k1.g, k1.p, k1.c, k2.k, k2.g, k2.p, k2.c]
    refine bindR (P := OutM k (bareM r c) id) (own_put h1 hf [vi (-1), .nils] (z := 2) (bytes := 32) rfl (by simp) (by simp [maxA]; omega)) ?_
    rintro pv' G ⟨g2, rfl, rfl, e1, ⟨es, e2⟩, e3⟩
    have hw1 : updW ow n [0, 1] n = some [0, 1] := by simp [updW]
    have hkk : ∀ j s, ow j = some s → [0, 1] <+: s → s ≠ [0, 1] → g2 j = g j ∧ updW ow n [0, 1] j = some s := fun j s hj hp hne => ⟨e1 j (hf j s hj) (fun e => by rw [hj] at e; injection e with e; exact hne e), by have := hf j s hj; simp only [updW]; rw [if_neg (by omega)]; exact hj⟩
    have o1 := e3 g2 (updW ow n [0, 1]) [vi (-1), lFrame []] rfl hw1 hkk ⟨.int _ _ _, .nil _, trivial⟩
    have o2 := put_other h2 hf (q := [0, 1]) (by simp) e1
    have hf2 : ∀ id s, updW ow n [0, 1] id = some s → id < n + 1 := fun id s hs => by
      simp only [updW] at hs
      split at hs
      · omega
      · have := hf id s hs; omega
    simp [hwr, hrn, k2.k, k2.g, k2.p, k2.c]
    have hol : (ords r i).length = i := by simp [ords]
    refine bindR (P := OutM k (bareM r c) id) (own_put o2 hf2 [vi (((i : Int) + 1).tmod r)] (z := 1) (bytes := 8) rfl (by simp) (by simp [maxA]; omega)) ?_
    rintro ov' G ⟨g3, rfl, rfl, e4, ⟨es2, e5⟩, e6⟩
    have hw2 : updW (updW ow n [0, 1]) (n + 1) [0, 2] (n + 1) = some [0, 2] := by simp [updW]
    have o3 := e6 g3 (updW (updW ow n [0, 1]) (n + 1) [0, 2]) [vi (((i : Int) + 1).tmod r)] rfl hw2 (fun j s hj hp hne => ⟨e4 j (hf2 j s hj) (fun e => by rw [hj] at e; injection e with e; exact hne e), by have := hf2 j s hj; simp only [updW] at hj ⊢; rw [if_neg (by omega)]; exact hj⟩) ⟨.int _ _ _, trivial⟩
    have o4 := put_other o1 hf2 (q := [0, 2]) (by simp) e4
    simp [hwr]
    have a1 : List.replicate (i + 1) (⟨-1, []⟩ : GPage) = List.replicate i ⟨-1, []⟩ ++ [⟨-1, []⟩] := List.replicate_succ'
    have a2 : ords r (i + 1) = ords r i ++ [((i : Int) + 1).tmod r] := by simp [ords, List.range_succ]
    have := next (.slice n 0 (i + 1), .slice (n + 1) 0 (i + 1)) ⟨n + 1 + 1, g3⟩ ⟨n + 1 + 1, g3, updW (updW ow n [0, 1]) (n + 1) [0, 2], rfl, by omega, by rw [a1]; simpa [lPage] using o4, by rw [a2]; simpa [lInt, hol] using o3, fun id s hs => ?_, fun id hid => ?_⟩
    · simpa [hol] using this
    · simp only [updW] at hs
      split at hs
      · injection hs with hs; subst hs; exact ⟨by omega, by omega, by simp⟩
      · split at hs
        · injection hs with hs; subst hs; exact ⟨by omega, by omega, by simp⟩
        · obtain ⟨x1, x2, x3⟩ := h3 id s hs; exact ⟨x1, by omega, x3⟩
    · have hn1 : ow id = none := by
        cases ho : ow id with
        | none => rfl
        | some s => have := (h3 id s ho).1; omega
      rw [e4 id (by omega) (by simp only [updW]; rw [if_neg (by omega), hn1]; simp), e1 id (by omega) (by rw [hn1]; simp)]
      exact h4 id hid
theorem call_47 (r c : Int) (hr : 1 ≤ r ∧ r ≤ 4) (n : Nat) (g : Heap') : ∃ pv ov n1 g1 ow, callBy (run AP mt) (.alone false false) 47 [vi r, vi c] ⟨n, g⟩ = some (.agg [vi c, pv, ov, vi 0, .nils, vi 0, .nils, vi 0], ⟨n1, g1⟩) ∧ PW n (bareM r c) n1 g1 ow pv ov .nils .nils ∧ (∀ id, id < n → g1 id = g id) := by
  obtain ⟨pv, ov, tv, sv, n1, g1, ow, h1, h2, h3⟩ := b_47 (mt := mt) r c hr n
  have hT : tv = .nils := by
    rcases h2.T.list_inv with ⟨_, h⟩ | ⟨h, _⟩
    · exact h
    · exact absurd rfl h
  have hS : sv = .nils := by
    rcases h2.S.list_inv with ⟨_, h⟩ | ⟨h, _⟩
    · exact h
    · exact absurd rfl h
  subst hT hS
  have K : ∀ {q a v}, Own g1 ow q a v → Own (ovr g g1) ow q a v := fun h => h.mono (fun j s hj _ => ⟨fun es he => ovr_some he, hj⟩)
  refine ⟨pv, ov, n1, ovr g g1, ow, ?_, ⟨h2.kn, K h2.P, K h2.O, .nil _, .nil _, h2.f⟩, fun id hid => ovr_none (h3 id hid)⟩
  have hf : frzs noObj [vi r, vi c] = some [vi r, vi c] := rfl
  unfold callBy
  simp [hf, h1, h2.kn, bareM]
end
end Go.Ai
set_option linter.unusedSimpArgs false
set_option linter.unusedVariables false
namespace Go.Ai
attribute [local simp] cnd_ite gS_ite callBy_whole
def zeroC : GCall := ⟨0, 0, [], [], 0, false⟩
def putM (m : GMach) (t pg : Int) : GMach := { m with twins := m.twins.set t.toNat ⟨pg, 0, zeroC⟩, pages := m.pages.set pg.toNat ⟨(twinAt m t).left.sender, [callFrame (twinAt m t).left t]⟩ }
/-- Other names for what a twin's call has. -/
def renP (t pg : Nat) (s : List Nat) : List Nat := if [0, 4, t, 4] <+: s then [0, 1, pg, 1, 0, 3] ++ s.drop 4 else if [0, 4, t, 5] <+: s then [0, 1, pg, 1, 0, 4] ++ s.drop 4 else s
theorem renP_4 (t pg : Nat) (s : List Nat) : renP t pg ([0, 4, t, 4] ++ s) = [0, 1, pg, 1, 0, 3] ++ s := by simp [renP]
theorem renP_5 (t pg : Nat) (s : List Nat) : renP t pg ([0, 4, t, 5] ++ s) = [0, 1, pg, 1, 0, 4] ++ s := by simp [renP]
theorem renP_no {t pg : Nat} {s : List Nat} (h : ¬ [0, 4, t] <+: s) : renP t pg s = s := by
  unfold renP
  rw [if_neg (fun e => h (List.IsPrefix.trans (by exact ⟨[4], rfl⟩) e)), if_neg (fun e => h (List.IsPrefix.trans (by exact ⟨[5], rfl⟩) e))]
section
variable {mt : Nat → Nat → Option Nat} {k n : Nat} {Z : Heap'} {o : Nat} {m : GMach} {g : Heap'} {ow : Ow}
theorem w_77 (a b : Int) {x y : AVal} (hx : Ok1 x) (hy : Ok1 y) (e t : Int) (d : Bool) (G : AG) : run AP mt 77 [.agg [vi a, vi b, x, y, vi e, .bool d], vi t] G = some (.agg [vi a, vi b, vi t, x, y], G) := by
  rw [run_evS AP_77 _ _ rfl]
  simp [c_77, hx.k, hx.g, hx.p, hx.c, hy.k, hy.g, hy.p, hy.c]
theorem put_50 (W : MW k Z o m n g ow) (t pg : Int) (ht : 0 ≤ t ∧ t < m.twins.length) (hp : 0 ≤ pg ∧ pg < m.pages.length) : ∃ n' g' ow', run AP mt 50 [.ptr o 0 0, vi t, vi pg] ⟨n, g⟩ = some (.tuple [], ⟨n', g'⟩) ∧ MW k Z o (putM m t pg) n' g' ow' := by
  obtain ⟨tt, htt, hta⟩ := twin_get ht.1 ht.2
  obtain ⟨pp, hpp, _, _⟩ := page_get hp.1 hp.2
  obtain ⟨pv, ov, tv, sv, H, Wo, P, O, T, S⟩ := W.view
  obtain ⟨idT, eT, rT, gT, wT, lT, iT, RT, bT, vT, KT⟩ := W.set [0, 4] t.toNat (es' := m.twins.map eTwin) (row' := eTwin tt) (by simp [getA]) (by simp [htt])
  simp [lookH, H] at vT
  match rT, RT with
  | [x0, x1, x2, x3, x4, x5, x6, x7], ⟨p0, p1, p2, p3, p4, p5, p6, p7, _⟩ =>
  have e0 := own_scal_inv (by rfl) p0
  have e1 := own_scal_inv (by rfl) p1
  have e2 := own_scal_inv (by rfl) p2
  have e3 := own_scal_inv (by rfl) p3
  have e6 := own_scal_inv (by rfl) p6
  have e7 := own_scal_inv (by rfl) p7
  subst e0 e1 e2 e3 e6 e7
  have k4 := ok1_list p4
  have k5 := ok1_list p5
  -- the twin
  obtain ⟨ow1, how1⟩ : ∃ ow1 : Ow, ow1 = fun j => (ow j).map (renP t.toNat pg.toNat) := ⟨_, rfl⟩
  have n1 : ∀ {j s}, ow j = some s → ow1 j = some (renP t.toNat pg.toNat s) := fun h => by rw [how1]; simp [h]
  have n2 : ∀ {j s}, ow j = some s → ¬ [0, 4, t.toNat] <+: s → ow1 j = some s := fun h hs => by rw [n1 h, renP_no hs]
  obtain ⟨g1, hg1⟩ : ∃ g1 : Heap', g1 = updO g idT (some (eT.set t.toNat [vi pg, vi 0, vi 0, vi 0, .nils, .nils, vi 0, .bool false])) := ⟨_, rfl⟩
  have same1 : ∀ j, j ≠ idT → g1 j = g j := fun j hj => by rw [hg1]; simp only [updO]; rw [if_neg hj]
  have W1 : MW k Z o { m with twins := m.twins.set t.toNat ⟨pg, 0, zeroC⟩ } n g1 ow1 := by
    refine KT _ n g1 ow1 (eTwin ⟨pg, 0, zeroC⟩) [vi pg, vi 0, vi 0, vi 0, .nils, .nils, vi 0, .bool false] ?_ (Nat.le_refl _) (by rw [hg1]; simp [updO]) (n2 wT (by simp)) ⟨.int _ _ _, .int _ _ _, .int _ _ _, .int _ _ _, .nil _, .nil _, .int _ _ _, .bool _ _, trivial⟩ ?_ ?_ ?_
    · simp [setR, List.map_set]
    · intro j s hj hs
      exact ⟨fun es he => by rw [same1 j hs.2]; exact he, n2 hj hs.1⟩
    · intro j s hj
      rw [how1] at hj
      simp only [Option.map_eq_some_iff] at hj
      obtain ⟨s0, hs0, _⟩ := hj
      exact W.f j s0 hs0
    · intro j hj
      exact same1 j (by omega)
  have q4 : Own g1 ow1 [0, 1, pg.toNat, 1, 0, 3] (lVal tt.left.temps) x4 := p4.name (fun j s hj => ⟨fun es he => by rw [same1 j (fun e => by subst e; rw [wT] at hj; injection hj with hj; have := congrArg List.length hj; simp at this), he], by rw [n1 hj]; exact congrArg some (renP_4 _ _ s)⟩)
  have q5 : Own g1 ow1 [0, 1, pg.toNat, 1, 0, 4] (lVal tt.left.stack) x5 := p5.name (fun j s hj => ⟨fun es he => by rw [same1 j (fun e => by subst e; rw [wT] at hj; injection hj with hj; have := congrArg List.length hj; simp at this), he], by rw [n1 hj]; exact congrArg some (renP_5 _ _ s)⟩)
  -- the page
  obtain ⟨pv1, ov1, tv1, sv1, H1, Wo1, P1, O1, T1, S1⟩ := W1.view
  obtain ⟨idP, eP, rP, gP, wP, lP, iP, RP, bP, vP, KP⟩ := W1.set [0, 1] pg.toNat (es' := m.pages.map ePage) (row' := ePage pp) (by simp [getA]) (by simp [hpp])
  simp [lookH, H1] at vP
  have hoT : o ≠ idT := by rintro rfl; rw [Wo] at wT; cases wT
  have hH1 : g1 o = g o := same1 o hoT
  rw [H1, H] at hH1
  injection hH1 with hH1
  simp only [List.cons.injEq, true_and, and_true] at hH1
  obtain ⟨rfl, rfl, rfl, rfl⟩ := hH1
  have hPl : rP.length = 2 := (RowR.iff.1 RP).1
  obtain ⟨g3, hg3⟩ : ∃ g3 : Heap', g3 = updO (updO g1 n (some [[vi tt.left.method, vi tt.left.pc, vi t, x4, x5]])) idP (some (eP.set pg.toNat [vi tt.left.sender, .slice n 0 1])) := ⟨_, rfl⟩
  have same3 : ∀ j, j ≠ idP → j ≠ n → g3 j = g1 j := fun j h1 h2 => by rw [hg3]; simp only [updO]; rw [if_neg h1, if_neg h2]
  have hw3 : ∀ {j s}, ow1 j = some s → updW ow1 n [0, 1, pg.toNat, 1] j = some s := fun h => by
    have := (W1.f _ _ h).2
    simp only [updW]; rw [if_neg (by omega)]; exact h
  have W3 : MW k Z o (putM m t pg) (n + 1) g3 (updW ow1 n [0, 1, pg.toNat, 1]) := by
    have up : ∀ {q a v}, [0, 1, pg.toNat, 1, 0] <+: q → Own g1 ow1 q a v → Own g3 (updW ow1 n [0, 1, pg.toNat, 1]) q a v := by
      intro q a v hq h
      refine h.mono (fun j s hj hp => ⟨fun es he => ?_, hw3 hj⟩)
      have := (W1.f _ _ hj).2
      rw [same3 j (fun e => ?_) (by omega), he]
      subst e
      rw [wP] at hj
      injection hj with hj
      subst hj
      have := (List.IsPrefix.trans hq hp).length_le
      simp at this
    have oF : Own g3 (updW ow1 n [0, 1, pg.toNat, 1]) [0, 1, pg.toNat, 1] (lFrame [callFrame tt.left t]) (.slice n 0 1) := by
      refine Own.mk (es := [[vi tt.left.method, vi tt.left.pc, vi t, x4, x5]]) (by simp) (by simp) (by simp [updW]) (by simp [hg3, updO, show ¬ n = idP by omega]) (by simp) (fun i r' r h1 h2 => ?_)
      cases i with
      | zero =>
        simp only [List.map_cons, List.map_nil, List.getElem?_cons_zero, Option.some.injEq] at h1 h2
        subst h1 h2
        exact ⟨.int _ _ _, .int _ _ _, .int _ _ _, up (List.prefix_append _ [3]) q4, up (List.prefix_append _ [4]) q5, trivial⟩
      | succ i => simp at h1
    refine KP _ (n + 1) g3 _ (ePage ⟨tt.left.sender, [callFrame tt.left t]⟩) [vi tt.left.sender, .slice n 0 1] ?_ (by omega) (by rw [hg3]; simp [updO]) (hw3 wP) ?_ ?_ ?_ ?_
    · simp [setR, List.map_set, putM, hta]
    · exact ⟨.int _ _ _, oF, trivial⟩
    · intro j s hj hs
      have := (W1.f _ _ hj).2
      exact ⟨fun es he => by rw [same3 j hs.2 (by omega)]; exact he, hw3 hj⟩
    · intro j s hj
      have := W.ok
      simp only [updW] at hj
      split at hj
      · omega
      · have := W1.f j s hj; omega
    · intro j hj
      have := W.ok
      exact same3 j (by omega) (by omega)
  refine ⟨n + 1, g3, _, ?_, W3⟩
  have hiT := idx_slice (z := 8) (g := g) (off := 0) (len := m.twins.length) (k := .i64) (n := t) ht.1 (by omega) gT (by rw [Nat.zero_add]; exact iT) rfl
  have hiT1 : idxV 8 (.slice idT 0 m.twins.length) (vi t) g1 = some (.ptr idT (0 + t.toNat) 0) := by
    refine idx_slice (es := eT.set t.toNat [vi pg, vi 0, vi 0, vi 0, .nils, .nils, vi 0, .bool false]) ht.1 (by omega) (by rw [hg1]; simp [updO]) (by rw [Nat.zero_add, List.getElem?_set_self (by have := (List.getElem?_eq_some_iff.1 iT).1; omega)]) rfl
  have hiP := idx_slice (z := 2) (g := updO g1 n (some [[vi tt.left.method, vi tt.left.pc, vi t, x4, x5]])) (off := 0) (len := m.pages.length) (k := .i64) (n := pg) hp.1 (by omega) (by simp only [updO]; rw [if_neg (show ¬ idP = n by omega)]; exact gP) (by rw [Nat.zero_add]; exact iP) hPl
  have hst1 := stH_ok (vs := [vi pg, vi 0, vi 0, vi 0, .nils, .nils, vi 0, .bool false]) (c := 0) (n := 8) iT ⟨rfl, by simp⟩
  have hst2 := stH_ok (vs := [vi tt.left.sender, .slice n 0 1]) (c := 0) (n := 2) iP ⟨rfl, by omega⟩
  rw [splice_all (by simp)] at hst1
  rw [splice_all (by simp [hPl])] at hst2
  rw [Nat.zero_add] at hiT hiP hiT1
  have hgP : (updO g1 n (some [[vi tt.left.method, vi tt.left.pc, vi t, x4, x5]])) idP = some eP := by simp only [updO]; rw [if_neg (by omega)]; exact gP
  have hgo : (updO g1 n (some [[vi tt.left.method, vi tt.left.pc, vi t, x4, x5]])) o = some [[vi m.cells, .slice idP 0 m.pages.length, ov1, vi m.now, .slice idT 0 m.twins.length, vi m.born, sv1, vi m.code]] := by
    have := W.ok
    simp only [updO]; rw [if_neg (show ¬ o = n by omega), H1, vP, vT]
  rw [run_evS AP_50 _ _ rfl]
  simp [c_50, H, vT, vP, hiT, gT, iT, k4.k, k4.g, k4.p, k4.c, k5.k, k5.g, k5.p, k5.c, hst1, ← hg1, H1, w_77 _ _ k4 k5, hgo, hiP, hgP, hst2, hg3]
end
end Go.Ai
set_option linter.unusedSimpArgs false
set_option linter.unusedVariables false
namespace Go.Ai
attribute [local simp] cnd_ite gS_ite callBy_whole
/-- A call's copies, under other names. -/
theorem MkC.to {m n1 : Nat} {g g1 : Heap'} {c : GCall} {tv kv : AVal} (h : MkC m n1 g g1 c tv kv) (a b : List Nat) : ∃ o1, Own g1 o1 a (lVal c.temps) tv ∧ Own g1 o1 b (lVal c.stack) kv ∧ ∀ id s, o1 id = some s → m ≤ id ∧ id < n1 := by
  obtain ⟨o1, h1, h2, h3⟩ := h.own []
  simp only [List.nil_append] at h1 h2
  refine ⟨fun id => (o1 id).map fun s => match s with | 2 :: r => a ++ r | 3 :: r => b ++ r | s => s, h1.name (fun j s hj => ⟨fun es he => he, by simp [hj]⟩), h2.name (fun j s hj => ⟨fun es he => he, by simp [hj]⟩), fun id s hs => ?_⟩
  simp only [Option.map_eq_some_iff] at hs
  obtain ⟨s0, hs0, _⟩ := hs
  exact ⟨(h3 id s0 hs0).1, (h3 id s0 hs0).2.1⟩
section
variable {mt : Nat → Nat → Option Nat} {k n : Nat} {Z : Heap'} {o : Nat} {m : GMach} {g : Heap'} {ow : Ow}
theorem MW.twin (W : MW k Z o m n g ow) (t : GTwin) {n1 : Nat} {g1 : Heap'} {o1 : Ow} {tv kv : AVal} (hn : n ≤ n1) (hg : ∀ id, id < n → g1 id = g id) (h4 : Own g1 o1 [0, 4, m.twins.length, 4] (lVal t.left.temps) tv) (h5 : Own g1 o1 [0, 4, m.twins.length, 5] (lVal t.left.stack) kv)
    (hf : ∀ id s, o1 id = some s → n ≤ id ∧ id < n1) (hl : m.twins.length ≤ 2097152) {pv ov tw sv : AVal} (H : g o = some [[vi m.cells, pv, ov, vi m.now, tw, vi m.born, sv, vi m.code]]) :
    ∃ g2, appV 8 96 tw (.list [[vi t.page, vi t.at_, vi t.left.method, vi t.left.pc, tv, kv, vi t.left.sender, .bool t.left.dead]]) ⟨n1, g1⟩ = some (.slice n1 0 (m.twins.length + 1), ⟨n1 + 1, g2⟩) ∧ g2 o = some [[vi m.cells, pv, ov, vi m.now, tw, vi m.born, sv, vi m.code]] ∧
      ∃ ow3, MW k Z o { m with twins := m.twins ++ [t] } (n1 + 1) (updO g2 o (some [[vi m.cells, pv, ov, vi m.now, .slice n1 0 (m.twins.length + 1), vi m.born, sv, vi m.code]])) ow3 := by
  obtain ⟨pv', ov', tv', sv', H', Wo, P, O, T, S⟩ := W.view
  rw [H] at H'
  injection H' with H'
  simp only [List.cons.injEq, true_and, and_true] at H'
  obtain ⟨rfl, rfl, rfl, rfl⟩ := H'
  have hok := W.ok
  have J : ∀ {id s}, ow id = some s → joinW n ow o1 id = some s := fun h => by unfold joinW; rw [if_pos (W.f _ _ h).2]; exact h
  have J1 : ∀ {id s}, o1 id = some s → joinW n ow o1 id = some s := fun h => by have := hf _ _ h; unfold joinW; rw [if_neg (by omega)]; exact h
  have K : ∀ {q a v}, Own g ow q a v → Own g1 (joinW n ow o1) q a v := fun h => h.mono (fun j s hj _ => ⟨fun es he => by rw [hg j (W.f j s hj).2]; exact he, J hj⟩)
  have K1 : ∀ {q a v}, Own g1 o1 q a v → Own g1 (joinW n ow o1) q a v := fun h => h.mono (fun j s hj _ => ⟨fun es he => he, J1 hj⟩)
  have hfj : ∀ id s, joinW n ow o1 id = some s → k ≤ id ∧ id < n1 := fun id s hs => by
    unfold joinW at hs
    split at hs
    · have := W.f id s hs; omega
    · have := hf id s hs; omega
  obtain ⟨v, G, e1, g2, rfl, rfl, e2, _, e3⟩ := own_put (K T) (fun id s hs => (hfj id s hs).2) [vi t.page, vi t.at_, vi t.left.method, vi t.left.pc, tv, kv, vi t.left.sender, .bool t.left.dead] (z := 8) (bytes := 96) rfl (by simp) (by simp [maxA]; omega)
  simp only [List.length_map] at e1
  have hoj : joinW n ow o1 o = some [] := J Wo
  have ho2 : g2 o = some [[vi m.cells, pv, ov, vi m.now, tw, vi m.born, sv, vi m.code]] := by rw [e2 o (by omega) (by rw [hoj]; simp), hg o hok.2]; exact H
  refine ⟨g2, e1, ho2, updW (joinW n ow o1) n1 [0, 4], ?_⟩
  have up : ∀ {q a v}, q ≠ [] → ¬ q <+: [0, 4] → Own g1 (joinW n ow o1) q a v → Own (updO g2 o (some [[vi m.cells, pv, ov, vi m.now, .slice n1 0 (m.twins.length + 1), vi m.born, sv, vi m.code]])) (updW (joinW n ow o1) n1 [0, 4]) q a v := by
    intro q a v hq0 hq h
    refine h.mono (fun j s hj hp => ⟨fun es he => ?_, ?_⟩)
    · have h1 : j ≠ o := by rintro rfl; rw [hoj] at hj; injection hj with hj; subst hj; exact hq0 (List.prefix_nil.1 hp)
      simp only [updO]
      rw [if_neg h1, e2 j (hfj j s hj).2 (fun e => by rw [hj] at e; injection e with e; subst e; exact hq hp)]
      exact he
    · have := (hfj j s hj).2
      simp only [updW]; rw [if_neg (by omega)]; exact hj
  refine MW.of (pv := pv) (ov := ov) (tv := .slice n1 0 (m.twins.length + 1)) (sv := sv) ⟨hok.1, by omega⟩ (fun id q hq => ?_) (fun id hid => ?_) (by simp [updO]) ?_ (up (by simp) (by simp) (K P)) (up (by simp) (by simp) (K O)) ?_ (up (by simp) (by simp) (K S))
  · simp only [updW] at hq
    split at hq
    · omega
    · have := hfj id q hq; omega
  · simp only [updO]
    rw [if_neg (by omega), e2 id (by omega) (fun e => by have := hfj id _ e; omega), hg id (by omega)]
    exact W.z id hid
  · simp only [updW]; rw [if_neg (by omega)]; exact hoj
  · have := e3 (updO g2 o (some [[vi m.cells, pv, ov, vi m.now, .slice n1 0 (m.twins.length + 1), vi m.born, sv, vi m.code]])) (updW (joinW n ow o1) n1 [0, 4]) (eTwin t) ?_ (by simp [updW]) (fun j s hj hp hs => ⟨?_, ?_⟩) ?_
    · have hT : lTwin (m.twins ++ [t]) = .list (m.twins.map eTwin ++ [eTwin t]) := by simp [lTwin]
      show Own _ _ [0, 4] (lTwin (m.twins ++ [t])) _
      rw [hT]
      simpa using this
    · simp only [updO]; rw [if_neg (by omega)]
    · have h1 : j ≠ o := by rintro rfl; rw [hoj] at hj; injection hj with hj; subst hj; simp at hp
      simp only [updO]
      rw [if_neg h1]
      exact e2 j (hfj j s hj).2 (fun e => by rw [hj] at e; injection e with e; exact hs e)
    · have := (hfj j s hj).2
      simp only [updW]; rw [if_neg (by omega)]; exact hj
    · simp only [List.length_map]
      exact ⟨.int _ _ _, .int _ _ _, .int _ _ _, .int _ _ _, up (by simp) (by simp) (K1 h4), up (by simp) (by simp) (K1 h5), .int _ _ _, .bool _ _, trivial⟩
end
theorem updO_2 {g : Heap'} {i : Nat} {x y : Option Obj'} : updO (updO g i x) i y = updO g i y := by funext t; simp only [updO]; split <;> rfl
theorem New.own2 {n n' : Nat} {g g1 : Heap'} {l : List GVal} {v : AVal} (h : New n g n' g1 l v) (ow : Ow) (q : List Nat) (hf : ∀ id s, ow id = some s → id < n) : ∃ ow', Own g1 ow' q (lVal l) v ∧ (∀ id s, ow id = some s → ow' id = some s) ∧ (∀ id s, ow' id = some s → ow id = some s ∨ (n ≤ id ∧ id < n')) := by
  rcases h with ⟨rfl, rfl, rfl, rfl⟩ | ⟨hne, rfl, rfl, rfl⟩
  · exact ⟨ow, .nil _, fun _ _ h => h, fun _ _ h => .inl h⟩
  · refine ⟨updW ow n q, own_new hne (by simp [updW]) (by simp [updO]), fun id s h => ?_, fun id s h => ?_⟩
    · have := hf id s h; simp only [updW]; rw [if_neg (by omega)]; exact h
    · simp only [updW] at h
      split at h
      · right; omega
      · exact .inl h
theorem New.same {n n' : Nat} {g g1 : Heap'} {l : List GVal} {v : AVal} (h : New n g n' g1 l v) : n ≤ n' ∧ ∀ id, id < n → g1 id = g id := by
  have := h.own (fun _ => none) []
  exact ⟨this.1, fun id hid => this.2.2.2.1 id (by omega)⟩
theorem fz_mach {g : Heap'} {a b c d : Int} {e : Bool} {pv ov tv sv P O T S : AVal} (f1 : frz 6 g pv = some P) (f2 : frz 6 g ov = some O) (f3 : frz 6 g tv = some T) (f4 : frz 6 g sv = some S) :
    frz 8 g (.tuple [.agg [vi a, pv, ov, vi b, tv, vi c, sv, vi d], .bool e]) = some (.tuple [.agg [vi a, P, O, vi b, T, vi c, S, vi d], .bool e]) := by
  have hv : ∀ x, frz 6 g (vi x) = some (vi x) := fun _ => rfl
  have hb : frz 7 g (.bool e) = some (.bool e) := rfl
  have h : frz 7 g (.agg [vi a, pv, ov, vi b, tv, vi c, sv, vi d]) = some (.agg [vi a, P, O, vi b, T, vi c, S, vi d]) := by
    show (omap (frz 6 g) _).map AVal.agg = _
    simp only [omap, f1, f2, f3, f4, hv, Option.bind_some, Option.map_some]
  show (omap (frz 7 g) _).map AVal.tuple = _
  simp only [omap, h, hb, Option.bind_some, Option.map_some]
def twinC (c : GCall) : GTwin := ⟨-1, 0, c⟩
def inM0 (h : GHeap) (r c : Int) (l : List GCall) : GMach := ⟨c, List.replicate r.toNat ⟨-1, []⟩, ords r r.toNat, -1, l.map twinC, h.born, h.said, h.code⟩
def inM (h : GHeap) (r c : Int) : GMach := if 0 ≤ h.now then { putM (inM0 h r c h.calls) h.now 0 with now := 0 } else inM0 h r c h.calls
section
variable {mt : Nat → Nat → Option Nat}
theorem i_21 (p : GProg) (h : GHeap) (r c : Int) (hp : ShP p) (hh : ShH h) (ok : heapOkS p h = true) (hr : roomsOkI r c = true) (k : Nat) : Gv k (.tuple [aMach (inM h r c), .bool true]) (run AP mt 21 [aProg p, aHeap h, vi r, vi c] ⟨k, noObj⟩) := by
  have q := m_35 (mt := mt) p h hp hh
  rw [heapOk_eq, ok] at q
  have q2 := m_46 (mt := mt) r c
  rw [hr] at q2
  unfold Q at q q2
  have hrr : 1 ≤ r ∧ r ≤ 4 := by
    unfold roomsOkI at hr
    simp only [Bool.and_eq_true, inR_iff] at hr
    exact hr.1
  generalize hN : nxt AP mt 46 [vi r, vi c] (nxt AP mt 35 [aProg p, aHeap h] k) = N
  have hkN : k ≤ N := by rw [← hN]; repeat (first | exact Nat.le_refl _ | apply le_nxt)
  obtain ⟨pv, ov, n1, g1, ow, a1, PWb, a3⟩ := call_47 (mt := mt) r c hrr N noObj
  have kp := ok1_list PWb.P
  have ko := ok1_list PWb.O
  rw [run_evS AP_21 _ _ rfl]
  have hst : stH 8 0 0 [vi c, pv, ov, vi 0, .nils, vi 0, .nils, vi 0] (some [[vi 0, .nils, .nils, vi 0, .nils, vi 0, .nils, vi 0]]) = some [[vi c, pv, ov, vi 0, .nils, vi 0, .nils, vi 0]] := by simp [stH]
  have hu : updO (updO g1 n1 (some [[vi 0, .nils, .nils, vi 0, .nils, vi 0, .nils, vi 0]])) n1 (some [[vi c, pv, ov, vi 0, .nils, vi 0, .nils, vi 0]]) = updO g1 n1 (some [[vi c, pv, ov, vi 0, .nils, vi 0, .nils, vi 0]]) := by funext t; simp only [updO]; split <;> rfl
  obtain ⟨sv, n2, g2, b1, b2⟩ := call_48 (mt := mt) (a := lVal h.said) hh.s (n := n1 + 1) (g := updO g1 n1 (some [[vi c, pv, ov, vi 0, .nils, vi 0, .nils, vi 0]])) rfl
  obtain ⟨c1, c2, c3, c4, _⟩ := b2.own (updW ow n1 []) [0, 6]
  have ks := ok1_list c3
  have hg2 : g2 n1 = some [[vi c, pv, ov, vi 0, .nils, vi 0, .nils, vi 0]] := by rw [c4 n1 (by omega)]; simp [updO]
  simp [c_21, q, q2, hN, a1, kp.k, kp.g, kp.p, kp.c, ko.k, ko.g, ko.p, ko.c, updO_same, hst, hu, b1, hg2, stH_root, ks.k, ks.g, ks.p, ks.c]
  have hfo : ∀ id s, updW ow n1 [] id = some s → N ≤ id ∧ id < n1 + 1 := fun id s hs => by
    have := PWb.kn
    simp only [updW] at hs
    split at hs
    · omega
    · have := PWb.f id s hs; omega
  obtain ⟨ow2, d1, d2, d3⟩ := b2.own2 (updW ow n1 []) [0, 6] (fun id s hs => (hfo id s hs).2)
  obtain ⟨d4, d5⟩ := b2.same
  simp only [updO_2]
  generalize hg3 : updO g2 n1 (some [[vi c, pv, ov, vi (-1), .nils, vi h.born, sv, vi h.code]]) = g3
  have W0 : MW N g3 n1 (inM0 h r c []) n2 g3 ow2 := by
    have up : ∀ {q a v}, Own g1 ow q a v → q ≠ [] → Own g3 ow2 q a v := by
      intro q a v h hq
      refine h.mono (fun j s hj hp => ?_)
      obtain ⟨f1, f2, f3⟩ := PWb.f j s hj
      refine ⟨fun es he => ?_, d2 j s (by simp only [updW]; rw [if_neg (by omega)]; exact hj)⟩
      rw [← hg3]
      simp only [updO]
      rw [if_neg (by omega), d5 j (by omega)]
      simp only [updO]
      rw [if_neg (by omega)]
      exact he
    refine MW.of (pv := pv) (ov := ov) (tv := .nils) (sv := sv) ⟨PWb.kn, by omega⟩ (fun id s hs => ?_) (fun _ _ => rfl) (by rw [← hg3]; simp [updO, inM0]) (d2 n1 [] (by simp [updW])) (up PWb.P (by simp)) (up PWb.O (by simp)) (.nil _) ?_
    · have := PWb.kn
      rcases d3 id s hs with h1 | h1
      · have := hfo id s h1; omega
      · omega
    · refine d1.mono (fun j s hj hp => ⟨fun es he => ?_, hj⟩)
      have : j ≠ n1 := by
        rintro rfl
        have h1 := d2 j [] (by simp [updW])
        rw [h1] at hj
        injection hj with hj
        subst hj
        simp at hp
      rw [← hg3]
      simp only [updO]
      rw [if_neg this]
      exact he
  refine loop_for (Gv k (.tuple [aMach (inM h r c), .bool true])) h.calls.length (fun i (_ : Unit) => upd (upd (upd (upd (upd (upd fr0 41 (vi i)) 40 (vi h.calls.length)) 39 (lCall h.calls)) 10 (.ptr n1 0 0)) 8 (.pbox [vi 0, .nils, .nils, vi 0, .nils, vi 0, .nils, vi 0])) 5 (.pbox [lCall h.calls, vi h.now, vi h.born, lVal h.said, vi h.code]))
    (fun i _ G => ∃ ow, MW N g3 n1 (inM0 h r c (h.calls.take i)) G.next G.obj ow) (fun _ _ _ => u_21_0) ?_ ?_ h.calls.length 0 () ⟨n2, g3⟩ (by omega) ⟨ow2, W0⟩
  · rintro - ⟨n4, g4⟩ ⟨ow4, W⟩
    have W : MW N g3 n1 (inM0 h r c h.calls) n4 g4 ow4 := by simpa only [List.take_length] using W
    have hc : ¬ ((h.calls.length : Int) < h.calls.length) := by omega
    have hkn : k ≤ n4 := by have := W.ok; have := W0.ok; simp only at *; omega
    obtain ⟨pv4, ov4, tv4, sv4, H4, _⟩ := W.view
    by_cases h0 : 0 ≤ h.now
    · have w := wf_of ok
      have hlt : h.now < h.calls.length := by
        obtain ⟨_, _, _, _, hj, _⟩ := w.head h0
        have := (List.getElem?_eq_some_iff.1 hj).1
        omega
      obtain ⟨n5, g5, ow5, e1, W5⟩ := put_50 (mt := mt) W h.now 0 ⟨h0, by simpa [inM0] using hlt⟩ ⟨by omega, by simp [inM0]; omega⟩
      obtain ⟨pv5, ov5, tv5, sv5, H5, _⟩ := W5.view
      have W6 := W5.scal (m' := inM h r c) (by simp [inM, h0]) (by simp [inM, h0]) (by simp [inM, h0]) (by simp [inM, h0]) H5
      have e6 : ({ putM (inM0 h r c h.calls) h.now 0 with now := 0 } : GMach) = inM h r c := by simp [inM, h0]
      have hn0 : (inM h r c).now = 0 := by simp [inM, h0]
      have hb0 : (inM h r c).born = (putM (inM0 h r c h.calls) h.now 0).born := by simp [inM, h0]
      have hc0 : (inM h r c).code = (putM (inM0 h r c h.calls) h.now 0).code := by simp [inM, h0]
      have hd0 : (inM h r c).cells = (putM (inM0 h r c h.calls) h.now 0).cells := by simp [inM, h0]
      obtain ⟨f1, f2, f3, f4, z1, z2, z3, z4⟩ := W6.fz updO_same
      rw [hd0, hn0, hb0, hc0] at W6 f1 f2 f3 f4
      have hle := W6.ok
      simp [b_21_0, hc, h0, e1, H5, stH_root, updO_same, z1.k, z1.g, z1.p, z1.c, z2.k, z2.g, z2.p, z2.c, z3.k, z3.g, z3.p, z3.c, z4.k, z4.g, z4.p, z4.c]
      refine Gv.some (by have := W0.ok; simp only at *; omega) ?_
      rw [fz_mach f1 f2 f3 f4, ← hd0, ← hb0, ← hc0, ← hn0]
    · obtain ⟨f1, f2, f3, f4, z1, z2, z3, z4⟩ := W.fz H4
      simp [b_21_0, hc, h0, H4, z1.k, z1.g, z1.p, z1.c, z2.k, z2.g, z2.p, z2.c, z3.k, z3.g, z3.p, z3.c, z4.k, z4.g, z4.p, z4.c]
      refine Gv.some hkn ?_
      rw [fz_mach f1 f2 f3 f4]
      simp [inM, h0]
  · rintro i - ⟨n4, g4⟩ hi ⟨ow4, W⟩ next
    have W : MW N g3 n1 (inM0 h r c (h.calls.take i)) n4 g4 ow4 := W
    have hc : (i : Int) < h.calls.length := by omega
    have hl := hh.l
    have hwr : IntKind.i64.wrap ((i : Int) + 1) = (i : Int) + 1 := wrap_id (by omega) (by omega)
    obtain ⟨cc, hcc⟩ : ∃ cc, h.calls[i]? = some cc := ⟨_, List.getElem?_eq_getElem hi⟩
    have hcl := hh.c cc (List.mem_of_getElem? hcc)
    have hix := fun g => idx_ok (g := g) (k := .i64) (w_Call h.calls) (show (0:Int) ≤ i by omega) (by simpa using hc)
    obtain ⟨tv, kv, n5, g5, hcall⟩ := OutC.mk (mt := mt) (snap := false) (f := 49) (as := [aCall cc]) (as' := [aCall cc]) (G := ⟨n4, g4⟩) rfl (i_49 (mt := mt) cc hcl n4)
    obtain ⟨a1, a2, k2, k3⟩ := hcall (.inl rfl)
    obtain ⟨pv4, ov4, tv4, sv4, H4, _⟩ := W.view
    have hlen : (h.calls.take i).length = i := by rw [List.length_take]; omega
    have hlen2 : (inM0 h r c (h.calls.take i)).twins.length = i := by simp [inM0]; omega
    obtain ⟨o1, y1, y2, y3⟩ := a2.to [0, 4, i, 4] [0, 4, i, 5]
    have hH4 : g4 n1 = some [[vi c, pv4, ov4, vi (-1), tv4, vi h.born, sv4, vi h.code]] := H4
    have hH5 : g5 n1 = some [[vi c, pv4, ov4, vi (-1), tv4, vi h.born, sv4, vi h.code]] := by
      rw [a2.same n1 W.ok.2]; exact H4
    obtain ⟨g6, t1, t2, ow6, W6⟩ := W.twin (twinC cc) a2.le a2.same (by rw [hlen2]; exact y1) (by rw [hlen2]; exact y2) y3 (by rw [hlen2]; omega) H4
    rw [hlen2] at t1 W6
    obtain ⟨_, _, z3, _⟩ : Ok1 pv4 ∧ Ok1 ov4 ∧ Ok1 tv4 ∧ Ok1 sv4 := (W.fz H4).2.2.2.2
    simp only [twinC] at t1
    have t2' : g6 n1 = some [[vi c, pv4, ov4, vi (-1), tv4, vi h.born, sv4, vi h.code]] := t2
    simp [b_21_0, hc, hix, hcc, hwr, hH4, a1, hH5, t1, t2', stH_root, z3.k, z3.g, z3.p, z3.c, k2.k, k2.g, k2.p, k2.c, k3.k, k3.g, k3.p, k3.c]
    have ht : h.calls.take (i + 1) = h.calls.take i ++ [cc] := by rw [List.take_add_one, hcc]; rfl
    have := next () ⟨n5 + 1, _⟩ ⟨ow6, by rw [ht]; simpa [inM0, List.map_append] using W6⟩
    simpa using this
end
end Go.Ai
