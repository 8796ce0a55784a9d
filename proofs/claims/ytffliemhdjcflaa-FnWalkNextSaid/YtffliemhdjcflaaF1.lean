/- Machines: where calls are; the program's small functions. Machines: the program's tests of form. -/
import Derived.Test.YtffliemhdjcflaaC10
set_option linter.unusedSimpArgs false
set_option linter.unusedVariables false
namespace Go.Ai
variable {mt : Nat → Nat → Option Nat}
attribute [local simp] cnd_ite gS_ite
/-- What is not too long. -/
structure ShM (m : GMach) : Prop where
  pg : m.pages.length ≤ 2097152
  fr : ∀ g ∈ m.pages, g.frames.length ≤ 2097152 ∧ ∀ f ∈ g.frames, f.temps.length ≤ 2097152 ∧ f.stack.length ≤ 2097152
  od : m.order.length ≤ 2097152
  tw : m.twins.length ≤ 2097152
  lf : ∀ t ∈ m.twins, t.left.temps.length ≤ 2097152 ∧ t.left.stack.length ≤ 2097152
  sd : m.said.length ≤ 2097152
abbrev Pl := Int × Int
abbrev aPl (x : Pl) : AVal := .agg [vi x.1, vi x.2]
def framesAt (m : GMach) (i : Int) : List GFrame := ((m.pages[i.toNat]?).map (·.frames)).getD []
def frameCall (f : GFrame) (s : Int) : GCall := ⟨f.method, f.pc, f.temps, f.stack, s, false⟩
def callFrame (c : GCall) (t : Int) : GFrame := ⟨c.method, c.pc, t, c.temps, c.stack⟩
/-- A place at which there is a call. -/
def PlOk (m : GMach) (x : Pl) : Prop := (x.1 < 0 ∧ 0 ≤ x.2 ∧ x.2 < m.twins.length) ∨ (0 ≤ x.1 ∧ x.1 < m.pages.length ∧ 0 ≤ x.2 ∧ x.2 < (framesAt m x.1).length)
def placeI (m : GMach) (t : Int) : Pl × Bool :=
  if inR t 0 (m.twins.length - 1) = true then match m.twins[t.toNat]? with
    | some w => if w.page < 0 then ((-1, t), true) else ((w.page, w.at_), decide (w.page < m.pages.length) && inR w.at_ 0 ((framesAt m w.page).length - 1))
    | none => ((0, 0), false)
  else ((0, 0), false)
def topI (m : GMach) : Pl × Bool := if inR m.now 0 (m.pages.length - 1) = true then ((m.now, (framesAt m m.now).length - 1), decide ((0 : Int) ≤ (framesAt m m.now).length - 1)) else ((0, 0), false)
def frameAt (m : GMach) (x : Pl) : GFrame := ((framesAt m x.1)[x.2.toNat]?).getD default
def twinAt (m : GMach) (i : Int) : GTwin := (m.twins[i.toNat]?).getD default
def baseAt (m : GMach) (i : Int) : Int := ((m.pages[i.toNat]?).map (·.base)).getD (-1)
def callAtI (m : GMach) (x : Pl) : GCall := if x.1 < 0 then (twinAt m x.2).left else frameCall (frameAt m x) (-1)
def callerI (m : GMach) (x : Pl) : Pl × Bool × Bool :=
  if ¬ x.1 < 0 ∧ 0 < x.2 then ((x.1, x.2 - 1), true, true)
  else if (if x.1 < 0 then (twinAt m x.2).left.sender else baseAt m x.1) = -1 then ((0, 0), false, true)
  else ((placeI m (if x.1 < 0 then (twinAt m x.2).left.sender else baseAt m x.1)).1, (placeI m (if x.1 < 0 then (twinAt m x.2).left.sender else baseAt m x.1)).2, (placeI m (if x.1 < 0 then (twinAt m x.2).left.sender else baseAt m x.1)).2)
section
variable {m : GMach}
theorem page_get {i : Int} (h0 : 0 ≤ i) (h1 : i < m.pages.length) : ∃ g, m.pages[i.toNat]? = some g ∧ framesAt m i = g.frames ∧ baseAt m i = g.base := by
  have h : m.pages[i.toNat]? = some (m.pages[i.toNat]'(by omega)) := List.getElem?_eq_getElem _
  exact ⟨_, h, by simp [framesAt, h], by simp [baseAt, h]⟩
theorem twin_get {i : Int} (h0 : 0 ≤ i) (h1 : i < m.twins.length) : ∃ t, m.twins[i.toNat]? = some t ∧ twinAt m i = t := by
  have h : m.twins[i.toNat]? = some (m.twins[i.toNat]'(by omega)) := List.getElem?_eq_getElem _
  exact ⟨_, h, by simp [twinAt, h]⟩
theorem frame_get {x : Pl} (h0 : 0 ≤ x.2) (h1 : x.2 < (framesAt m x.1).length) : ∃ f, (framesAt m x.1)[x.2.toNat]? = some f ∧ frameAt m x = f := by
  have h : (framesAt m x.1)[x.2.toNat]? = some ((framesAt m x.1)[x.2.toNat]'(by omega)) := List.getElem?_eq_getElem _
  exact ⟨_, h, by simp [frameAt, h]⟩
theorem place_ok {t : Int} (h : (placeI m t).2 = true) : PlOk m (placeI m t).1 := by
  by_cases hi : inR t 0 (m.twins.length - 1) = true
  rotate_left
  · have e : placeI m t = ((0, 0), false) := by unfold placeI; rw [if_neg hi]
    rw [e] at h; cases h
  have hi' := inR_iff.1 hi
  obtain ⟨w, hw, _⟩ := twin_get (m := m) hi'.1 (by omega)
  have e : placeI m t = (if w.page < 0 then ((-1, t), true) else ((w.page, w.at_), decide (w.page < m.pages.length) && inR w.at_ 0 ((framesAt m w.page).length - 1))) := by unfold placeI; rw [if_pos hi, hw]
  rw [e] at h ⊢
  by_cases hn : w.page < 0
  · rw [if_pos hn]; exact .inl ⟨(show (-1 : Int) < 0 by decide), hi'.1, (show t < (m.twins.length : Int) by omega)⟩
  · rw [if_neg hn] at h ⊢
    simp only [Bool.and_eq_true, decide_eq_true_eq, inR_iff] at h
    obtain ⟨h1, h2, h3⟩ := h
    exact .inr ⟨by show 0 ≤ w.page; omega, h1, h2, (show w.at_ < ((framesAt m w.page).length : Int) by omega)⟩
theorem top_ok (h : (topI m).2 = true) : PlOk m (topI m).1 := by
  by_cases hi : inR m.now 0 (m.pages.length - 1) = true
  rotate_left
  · have e : topI m = ((0, 0), false) := by unfold topI; rw [if_neg hi]
    rw [e] at h; cases h
  have hi' := inR_iff.1 hi
  have e : topI m = ((m.now, ((framesAt m m.now).length : Int) - 1), decide ((0 : Int) ≤ (framesAt m m.now).length - 1)) := by unfold topI; rw [if_pos hi]
  rw [e] at h ⊢
  simp only [decide_eq_true_eq] at h
  exact .inr ⟨hi'.1, (show m.now < (m.pages.length : Int) by omega), h, (show ((framesAt m m.now).length : Int) - 1 < ((framesAt m m.now).length : Int) by omega)⟩
theorem caller_ok {x : Pl} (hx : PlOk m x) (h : (callerI m x).2.1 = true) : PlOk m (callerI m x).1 := by
  by_cases hc : ¬ x.1 < 0 ∧ 0 < x.2
  · have e : callerI m x = ((x.1, x.2 - 1), true, true) := by unfold callerI; rw [if_pos hc]
    rw [e]
    rcases hx with ⟨h1, _⟩ | ⟨h1, h2, h3, h4⟩
    · exact absurd h1 hc.1
    · exact .inr ⟨h1, h2, (show 0 ≤ x.2 - 1 by omega), (show x.2 - 1 < ((framesAt m x.1).length : Int) by omega)⟩
  · generalize hs : (if x.1 < 0 then (twinAt m x.2).left.sender else baseAt m x.1) = s
    have e : callerI m x = if s = -1 then ((0, 0), false, true) else ((placeI m s).1, (placeI m s).2, (placeI m s).2) := by unfold callerI; rw [if_neg hc, hs]
    rw [e] at h ⊢
    by_cases hn : s = -1
    · rw [if_pos hn] at h; cases h
    · rw [if_neg hn] at h ⊢
      exact place_ok h
end
theorem m_81 (f : GFrame) (s : Int) : Q mt 81 [aFrame f, vi s] (aCall (frameCall f s)) := by
  refine Q.of rfl (fun k => ?_)
  rw [run_evS AP_81 _ _ rfl]
  simp [c_81]
  exact Gv.some (Nat.le_refl _) rfl
theorem m_121 (f : GFrame) (h : f.temps.length ≤ 2097152) : Q mt 121 [aFrame f] (vi (4 + f.temps.length + 6)) := by
  have h1 : IntKind.i64.wrap (4 + (f.temps.length : Int)) = 4 + f.temps.length := wrap_id (by omega) (by omega)
  have h2 : IntKind.i64.wrap (4 + (f.temps.length : Int) + 6) = 4 + f.temps.length + 6 := wrap_id (by omega) (by omega)
  refine Q.of rfl (fun k => ?_)
  rw [run_evS AP_121 _ _ rfl]
  simp [c_121, h1, h2]
  exact Gv.some (Nat.le_refl _) rfl
def emptyC (c : GCall) : Bool := decide (c.method = 0) && (decide (c.pc = 0) && (decide (c.temps.length = 0) && (decide (c.stack.length = 0) && (decide (c.sender = 0) && !c.dead))))
theorem m_104 (c : GCall) : Q mt 104 [aCall c] (.bool (emptyC c)) := by
  refine Q.of rfl (fun k => ?_)
  rw [run_evS AP_104 _ _ rfl]
  by_cases h1 : c.method = 0
  rotate_left
  · simp [c_104, h1]; exact Gv.bool (Nat.le_refl _) (by simp [emptyC, h1])
  by_cases h2 : c.pc = 0
  rotate_left
  · simp [c_104, h1, h2]; exact Gv.bool (Nat.le_refl _) (by simp [emptyC, h1, h2])
  by_cases h3 : c.temps = []
  rotate_left
  · simp [c_104, h1, h2, h3]; exact Gv.bool (Nat.le_refl _) (by simp [emptyC, h1, h2, h3])
  by_cases h4 : c.stack = []
  rotate_left
  · simp [c_104, h1, h2, h3, h4]; exact Gv.bool (Nat.le_refl _) (by simp [emptyC, h1, h2, h3, h4])
  by_cases h5 : c.sender = 0
  rotate_left
  · simp [c_104, h1, h2, h3, h4, h5]; exact Gv.bool (Nat.le_refl _) (by simp [emptyC, h1, h2, h3, h4, h5])
  simp [c_104, h1, h2, h3, h4, h5]
  exact Gv.bool (Nat.le_refl _) (by simp [emptyC, h1, h2, h3, h4, h5])
theorem m_52 (m : GMach) (h : ShM m) : Q mt 52 [aMach m] (.tuple [aPl (topI m).1, .bool (topI m).2]) := by
  have q := fun a b c => r_66 (mt := mt) a b c
  unfold Q at q
  have hp := h.pg
  have hw : IntKind.i64.wrap ((m.pages.length : Int) - 1) = m.pages.length - 1 := wrap_id (by omega) (by omega)
  refine Q.of rfl (fun k => ?_)
  rw [run_evS AP_52 _ _ rfl]
  unfold topI
  by_cases hi : inR m.now 0 (m.pages.length - 1) = true
  · have hi' := inR_iff.1 hi
    obtain ⟨g, hg, hf, _⟩ := page_get (m := m) hi'.1 (by omega)
    have hfl := (h.fr g (List.mem_of_getElem? hg)).1
    have hix := fun g => idx_ok (g := g) (k := .i64) (w_Page m.pages) hi'.1 (by simp; omega)
    have hw2 : IntKind.i64.wrap ((g.frames.length : Int) - 1) = g.frames.length - 1 := wrap_id (by omega) (by omega)
    rw [if_pos hi, hf]
    simp [c_52, q, hw, hi, hix, hg, hw2]
    exact Gv.some (le_nxt (Nat.le_refl _)) (by simp [frz, omap])
  · rw [if_neg hi]
    simp [c_52, q, hw, hi]
    exact Gv.some (le_nxt (Nat.le_refl _)) (by simp [frz, omap])
theorem m_85 (m : GMach) (h : ShM m) (t : Int) : Q mt 85 [aMach m, vi t] (.tuple [aPl (placeI m t).1, .bool (placeI m t).2]) := by
  have q := fun a b c => r_66 (mt := mt) a b c
  unfold Q at q
  have hp := h.tw
  have hw : IntKind.i64.wrap ((m.twins.length : Int) - 1) = m.twins.length - 1 := wrap_id (by omega) (by omega)
  refine Q.of rfl (fun k => ?_)
  rw [run_evS AP_85 _ _ rfl]
  unfold placeI
  by_cases hi : inR t 0 (m.twins.length - 1) = true
  rotate_left
  · rw [if_neg hi]
    simp [c_85, q, hw, hi]
    exact Gv.some (le_nxt (Nat.le_refl _)) (by simp [frz, omap])
  have hi' := inR_iff.1 hi
  obtain ⟨w, hw', _⟩ := twin_get (m := m) hi'.1 (by omega)
  have hix := fun g => idx_ok (g := g) (k := .i64) (w_Twin m.twins) hi'.1 (by simp; omega)
  rw [if_pos hi, hw']
  dsimp only
  by_cases hn : w.page < 0
  · rw [if_pos hn]
    simp [c_85, q, hw, hi, hix, hw', hn]
    exact Gv.some (le_nxt (Nat.le_refl _)) (by simp [frz, omap])
  rw [if_neg hn]
  by_cases hl : w.page < m.pages.length
  rotate_left
  · simp [c_85, q, hw, hi, hix, hw', hn, hl]
    exact Gv.some (le_nxt (Nat.le_refl _)) (by simp [frz, omap])
  obtain ⟨g, hg, hf, _⟩ := page_get (m := m) (i := w.page) (by omega) hl
  have hfl := (h.fr g (List.mem_of_getElem? hg)).1
  have hix2 := fun g => idx_ok (g := g) (k := .i64) (w_Page m.pages) (show (0:Int) ≤ w.page by omega) (by simp; omega)
  have hw2 : IntKind.i64.wrap ((g.frames.length : Int) - 1) = g.frames.length - 1 := wrap_id (by omega) (by omega)
  rw [hf]
  simp [c_85, q, hw, hi, hix, hw', hn, hl, hix2, hg, hw2]
  exact Gv.some (le_nxt (le_nxt (Nat.le_refl _))) (by simp [frz, omap])
theorem m_53 (m : GMach) (h : ShM m) (x : Pl) (hx : PlOk m x) : Q mt 53 [aMach m, aPl x] (aCall (callAtI m x)) := by
  have q := fun a b => m_81 (mt := mt) a b
  unfold Q at q
  refine Q.of rfl (fun k => ?_)
  rw [run_evS AP_53 _ _ rfl]
  unfold callAtI
  rcases hx with ⟨h1, h2, h3⟩ | ⟨h1, h2, h3, h4⟩
  · obtain ⟨w, hw, e⟩ := twin_get (m := m) h2 h3
    have hix := fun g => idx_ok (g := g) (k := .i64) (w_Twin m.twins) h2 (by simpa using h3)
    rw [if_pos h1, e]
    simp [c_53, h1, hix, hw]
    exact Gv.some (Nat.le_refl _) rfl
  · obtain ⟨g, hg, hf, _⟩ := page_get (m := m) h1 h2
    obtain ⟨f, hff, e⟩ := frame_get (m := m) h3 h4
    rw [hf] at hff h4
    have hn : ¬ x.1 < 0 := by omega
    have hix := fun g => idx_ok (g := g) (k := .i64) (w_Page m.pages) h1 (by simpa using h2)
    have hix2 := fun g' => idx_ok (g := g') (k := .i64) (w_Frame g.frames) h3 (by simpa using h4)
    rw [if_neg hn, e]
    simp [c_53, hn, hix, hg, hix2, hff, q]
    exact Gv.some (le_nxt (Nat.le_refl _)) rfl
theorem m_59 (m : GMach) (h : ShM m) (x : Pl) (hx : PlOk m x) : Q mt 59 [aMach m, aPl x] (.tuple [aPl (callerI m x).1, .bool (callerI m x).2.1, .bool (callerI m x).2.2]) := by
  have q := fun t => m_85 (mt := mt) m h t
  unfold Q at q
  refine Q.of rfl (fun k => ?_)
  rw [run_evS AP_59 _ _ rfl]
  unfold callerI
  rcases hx with ⟨h1, h2, h3⟩ | ⟨h1, h2, h3, h4⟩
  · obtain ⟨w, hw, e⟩ := twin_get (m := m) h2 h3
    have hix := fun g => idx_ok (g := g) (k := .i64) (w_Twin m.twins) h2 (by simpa using h3)
    rw [if_neg (fun hc => hc.1 h1), if_pos h1, e]
    by_cases hs : w.left.sender = -1
    · rw [if_pos hs]
      simp [c_59, h1, hix, hw, hs]
      exact Gv.some (Nat.le_refl _) (by simp [frz, omap])
    · rw [if_neg hs]
      simp [c_59, h1, hix, hw, hs, q]
      exact Gv.some (le_nxt (Nat.le_refl _)) (by simp [frz, omap])
  · obtain ⟨g, hg, hf, hb⟩ := page_get (m := m) h1 h2
    have hn : ¬ x.1 < 0 := by omega
    have hix := fun g => idx_ok (g := g) (k := .i64) (w_Page m.pages) h1 (by simpa using h2)
    by_cases hp : 0 < x.2
    · have hw : IntKind.i64.wrap (x.2 - 1) = x.2 - 1 := by
        have := (h.fr g (List.mem_of_getElem? hg)).1
        rw [hf] at h4
        exact wrap_id (by omega) (by omega)
      rw [if_pos ⟨hn, hp⟩]
      simp [c_59, hn, hp, hw]
      exact Gv.some (Nat.le_refl _) (by simp [frz, omap])
    · rw [if_neg (fun hc => hp hc.2), if_neg hn, hb]
      by_cases hs : g.base = -1
      · rw [if_pos hs]
        simp [c_59, hn, hp, hix, hg, hs]
        exact Gv.some (Nat.le_refl _) (by simp [frz, omap])
      · rw [if_neg hs]
        simp [c_59, hn, hp, hix, hg, hs, q]
        exact Gv.some (le_nxt (Nat.le_refl _)) (by simp [frz, omap])
end Go.Ai
set_option linter.unusedSimpArgs false
set_option linter.unusedVariables false
namespace Go.Ai
variable {mt : Nat → Nat → Option Nat}
attribute [local simp] cnd_ite gS_ite
def allN (n : Nat) (f : Nat → Bool) : Bool := (List.range n).all f
theorem allN_iff {n : Nat} {f : Nat → Bool} : allN n f = true ↔ ∀ i, i < n → f i = true := by simp [allN]
theorem allN_false {n i : Nat} {f : Nat → Bool} (hi : i < n) (h : f i = false) : allN n f = false := by
  cases e : allN n f
  · rfl
  · rw [allN_iff.1 e i hi] at h; cases h
def idxF : List Int → Int → Int → Int
  | [], _, _ => -1
  | y :: r, x, i => if x = y then i else idxF r x (i + 1)
def indexI (l : List Int) (x : Int) : Int := idxF l x 0
theorem m_120 (l : List Int) (x : Int) (h : l.length ≤ 2097152) : Q mt 120 [lInt l, vi x] (vi (indexI l x)) := by
  refine Q.of rfl (fun k => ?_)
  rw [run_evS AP_120 _ _ rfl]
  simp [c_120]
  refine loop_for (Gv k (vi (indexI l x))) l.length (fun i (_ : Unit) => upd (upd (upd (upd fr0 8 (vi i)) 7 (vi l.length)) 1 (vi x)) 0 (lInt l)) (fun i _ G => k ≤ G.next ∧ G.obj = noObj ∧ indexI l x = idxF (l.drop i) x i) (fun _ _ _ => u_120_0) ?_ ?_ l.length 0 () ⟨k, noObj⟩ (by omega) ⟨Nat.le_refl _, rfl, rfl⟩
  · rintro _ ⟨m, g⟩ ⟨hm, rfl, ht⟩
    rw [List.drop_length] at ht
    rw [ht]
    simp [b_120_0]
    exact Gv.some hm rfl
  · rintro i _ ⟨m, g⟩ hi ⟨hm, rfl, ht⟩ next
    dsimp only at hm
    have hwr : IntKind.i64.wrap ((i : Int) + 1) = (i : Int) + 1 := wrap_id (by omega) (by omega)
    have hc : (i : Int) < l.length := by omega
    have hx : l[i]? = some l[i] := List.getElem?_eq_getElem hi
    have ix := fun g => idx_ok (g := g) (k := .i64) (w_Int l) (show (0:Int) ≤ i by omega) (by simpa using hc)
    rw [List.drop_eq_getElem_cons hi, idxF] at ht
    by_cases e : x = l[i]
    · rw [if_pos e] at ht
      rw [ht]
      have hx' : l[i]? = some x := by rw [hx, ← e]
      simp [b_120_0, hc, ix, hx']
      exact Gv.some hm rfl
    · rw [if_neg e] at ht
      generalize hy : l[i] = y at *
      simp [b_120_0, hc, ix, hx, e, hwr]
      simpa using next () ⟨m, noObj⟩ ⟨hm, rfl, by rw [ht]; simp⟩
theorem m_102 (l : List Int) (x : Int) (h : l.length ≤ 2097152) : Q mt 102 [lInt l, vi x] (.bool (decide (0 ≤ indexI l x))) := by
  have q := m_120 (mt := mt) l x h
  unfold Q at q
  refine Q.of rfl (fun k => ?_)
  rw [run_evS AP_102 _ _ rfl]
  simp [c_102, q]
  exact Gv.bool (le_nxt (Nat.le_refl _)) rfl
def usedI (g : GPage) : Int := (g.frames.map (fun f => (4 + (f.temps.length : Int) + 6))).sum
theorem m_103 (g : GPage) (h : g.frames.length ≤ 2097152) (hf : ∀ f ∈ g.frames, f.temps.length ≤ 2097152) : Q mt 103 [aPage g] (vi (usedI g)) := by
  refine Q.of rfl (fun k => ?_)
  rw [run_evS AP_103 _ _ rfl]
  simp [c_103]
  refine loop_for (Gv k (vi (usedI g))) g.frames.length (fun i (s : Int) => upd (upd (upd (upd fr0 9 (vi i)) 8 (vi g.frames.length)) 7 (lFrame g.frames)) 3 (vi s)) (fun i s G => k ≤ G.next ∧ G.obj = noObj ∧ s = ((g.frames.take i).map (fun f => (4 + (f.temps.length : Int) + 6))).sum ∧ 0 ≤ s ∧ s ≤ i * 2097162) (fun _ _ _ => u_103_0) ?_ ?_ g.frames.length 0 0 ⟨k, noObj⟩ (by omega) ⟨Nat.le_refl _, rfl, rfl, by omega, by omega⟩
  · rintro s ⟨m, g'⟩ ⟨hm, rfl, ht, _, _⟩
    rw [List.take_length] at ht
    simp [b_103_0]
    rw [ht]
    exact Gv.some hm rfl
  · rintro i s ⟨m, g'⟩ hi ⟨hm, rfl, ht, h0, h1⟩ next
    dsimp only at hm
    have hwr : IntKind.i64.wrap ((i : Int) + 1) = (i : Int) + 1 := wrap_id (by omega) (by omega)
    have hc : (i : Int) < g.frames.length := by omega
    obtain ⟨f, hx⟩ : ∃ f, g.frames[i]? = some f := ⟨_, List.getElem?_eq_getElem hi⟩
    have ix := fun g' => idx_ok (g := g') (k := .i64) (w_Frame g.frames) (show (0:Int) ≤ i by omega) (by simpa using hc)
    have hfl := hf f (List.mem_of_getElem? hx)
    have q := m_121 (mt := mt) f hfl
    unfold Q at q
    have hs : IntKind.i64.wrap (s + (4 + (f.temps.length : Int) + 6)) = s + (4 + (f.temps.length : Int) + 6) := wrap_id (by omega) (by omega)
    simp [b_103_0, hc, ix, hx, q, hs, hwr]
    have hsum : s + (4 + (f.temps.length : Int) + 6) = ((g.frames.take (i + 1)).map (fun f => (4 + (f.temps.length : Int) + 6))).sum := by
      rw [List.take_add_one, hx, ht]
      simp
    simpa using next (s + (4 + (f.temps.length : Int) + 6)) ⟨nxt AP mt 121 [aFrame f] m, noObj⟩ ⟨le_nxt hm, rfl, hsum, by omega, by omega⟩
def framesN (m : GMach) : Int := (m.pages.map (fun g => (g.frames.length : Int))).sum
theorem m_105 (m : GMach) (h : ShM m) : Q mt 105 [aMach m] (vi (framesN m)) := by
  have hp := h.pg
  refine Q.of rfl (fun k => ?_)
  rw [run_evS AP_105 _ _ rfl]
  simp [c_105]
  refine loop_for (Gv k (vi (framesN m))) m.pages.length (fun i (s : Int) => upd (upd (upd (upd fr0 9 (vi i)) 8 (vi m.pages.length)) 7 (lPage m.pages)) 3 (vi s)) (fun i s G => k ≤ G.next ∧ G.obj = noObj ∧ s = ((m.pages.take i).map (fun g => (g.frames.length : Int))).sum ∧ 0 ≤ s ∧ s ≤ i * 2097162) (fun _ _ _ => u_105_0) ?_ ?_ m.pages.length 0 0 ⟨k, noObj⟩ (by omega) ⟨Nat.le_refl _, rfl, rfl, by omega, by omega⟩
  · rintro s ⟨n, g'⟩ ⟨hm, rfl, ht, _, _⟩
    rw [List.take_length] at ht
    simp [b_105_0]
    rw [ht]
    exact Gv.some hm rfl
  · rintro i s ⟨n, g'⟩ hi ⟨hm, rfl, ht, h0, h1⟩ next
    dsimp only at hm
    have hwr : IntKind.i64.wrap ((i : Int) + 1) = (i : Int) + 1 := wrap_id (by omega) (by omega)
    have hc : (i : Int) < m.pages.length := by omega
    obtain ⟨f, hx⟩ : ∃ f, m.pages[i]? = some f := ⟨_, List.getElem?_eq_getElem hi⟩
    have ix := fun g' => idx_ok (g := g') (k := .i64) (w_Page m.pages) (show (0:Int) ≤ i by omega) (by simpa using hc)
    have hfl := (h.fr f (List.mem_of_getElem? hx)).1
    have hs : IntKind.i64.wrap (s + (f.frames.length : Int)) = s + (f.frames.length : Int) := wrap_id (by omega) (by omega)
    simp [b_105_0, hc, ix, hx, hs, hwr]
    have hsum : s + (f.frames.length : Int) = ((m.pages.take (i + 1)).map (fun g => (g.frames.length : Int))).sum := by
      rw [List.take_add_one, hx, ht]
      simp
    simpa using next (s + (f.frames.length : Int)) ⟨n, noObj⟩ ⟨hm, rfl, hsum, by omega, by omega⟩
def orderedI (m : GMach) : Bool := allN m.pages.length (fun i => decide (0 ≤ indexI m.order i)) && (decide (m.order.length = m.pages.length) && (decide (m.now = -1) || ((topI m).2 && decide (m.order[m.order.length - 1]? = some m.now))))
theorem m_78 (m : GMach) (h : ShM m) : Q mt 78 [aMach m] (.bool (orderedI m)) := by
  have hp := h.pg
  have ho := h.od
  have q1 := fun x => m_102 (mt := mt) m.order x h.od
  have q2 := m_52 (mt := mt) m h
  unfold Q at q1 q2
  refine Q.of rfl (fun k => ?_)
  rw [run_evS AP_78 _ _ rfl]
  simp [c_78]
  refine loop_for (Gv k (.bool (orderedI m))) m.pages.length (fun i (_ : Unit) => upd (upd (upd fr0 9 (vi i)) 8 (vi m.pages.length)) 1 (.pbox [vi m.cells, lPage m.pages, lInt m.order, vi m.now, lTwin m.twins, vi m.born, lVal m.said, vi m.code])) (fun i _ G => k ≤ G.next ∧ G.obj = noObj ∧ ∀ j, j < i → decide (0 ≤ indexI m.order (j : Nat)) = true) (fun _ _ _ => u_78_0) ?_ ?_ m.pages.length 0 () ⟨k, noObj⟩ (by omega) ⟨Nat.le_refl _, rfl, fun j hj => by omega⟩
  · rintro _ ⟨n, g⟩ ⟨hm, rfl, ht⟩
    dsimp only at hm
    have hall : allN m.pages.length (fun i => decide (0 ≤ indexI m.order i)) = true := allN_iff.2 ht
    by_cases hl : m.order.length = m.pages.length
    rotate_left
    · have hl' : ¬ ((m.order.length : Int) = m.pages.length) := by omega
      simp [b_78_0, hl']
      exact Gv.bool hm (by simp [orderedI, hl])
    have hl' : ((m.order.length : Int) = m.pages.length) := by omega
    by_cases hn : m.now = -1
    · simp [b_78_0, hl', q2, eq_true hn]
      exact Gv.bool (le_nxt hm) (by simp [orderedI, hl, hall, hn])
    cases htop : (topI m).2
    · rw [htop] at q2
      simp [b_78_0, hl', q2, hn]
      exact Gv.bool (le_nxt hm) (by simp [orderedI, hall, hn, htop])
    · have hok := top_ok htop
      have hpos : 0 < m.order.length := by
        rw [hl]
        rcases hok with ⟨h1, h2, h3⟩ | ⟨h1, h2, _⟩
        · exfalso
          have : ¬ (topI m).1.1 < 0 := by
            unfold topI at htop ⊢
            split at htop
            · rename_i hi; rw [if_pos hi]; have := (inR_iff.1 hi).1; show ¬ m.now < 0; omega
            · cases htop
          exact this h1
        · omega
      have hw : IntKind.i64.wrap ((m.order.length : Int) - 1) = m.order.length - 1 := wrap_id (by omega) (by omega)
      have ix := fun g' => idx_ok (g := g') (k := .i64) (w_Int m.order) (show (0:Int) ≤ (m.order.length : Int) - 1 by omega) (by simp; omega)
      have hx : m.order[m.order.length - 1]? = some (m.order[m.order.length - 1]'(by omega)) := List.getElem?_eq_getElem _
      have ht : ((m.order.length : Int) - 1).toNat = m.order.length - 1 := by omega
      generalize m.order[m.order.length - 1]'(by omega) = y at hx
      rw [htop] at q2
      have hwp : IntKind.i64.wrap ((m.pages.length : Int) - 1) = (m.pages.length : Int) - 1 := wrap_id (by omega) (by omega)
      have ix' := ix
      rw [hl'] at ix'
      have hx' : m.order[((m.pages.length : Int) - 1).toNat]? = some y := by rw [← hl', ht]; exact hx
      have hx2 : m.order[m.pages.length - 1]? = some y := by rw [← hl]; exact hx
      simp [b_78_0, hl', q2, hn, hwp, ix', hx2]
      exact Gv.bool (le_nxt hm) (by simp [orderedI, hl, hall, hn, htop, hx2])
  · rintro i _ ⟨n, g⟩ hi ⟨hm, rfl, ht⟩ next
    dsimp only at hm
    have hwr : IntKind.i64.wrap ((i : Int) + 1) = (i : Int) + 1 := wrap_id (by omega) (by omega)
    have hc : (i : Int) < m.pages.length := by omega
    by_cases e : 0 ≤ indexI m.order i
    · simp [b_78_0, hc, q1, e, hwr]
      have hall : ∀ j, j < i + 1 → decide (0 ≤ indexI m.order (j : Nat)) = true := fun j hj => by
        by_cases hji : j = i
        · subst hji; simpa using e
        · exact ht j (by omega)
      simpa using next () ⟨nxt AP mt 102 [lInt m.order, vi i] n, noObj⟩ ⟨le_nxt hm, rfl, hall⟩
    · simp [b_78_0, hc, q1, e]
      exact Gv.bool (le_nxt hm) (by
        have := allN_false (f := fun i => decide (0 ≤ indexI m.order (i : Nat))) hi (by simpa using e)
        simp [orderedI, this])
end Go.Ai
