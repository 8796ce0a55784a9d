/- Machines: a heap moved in is a machine that is ok, and has the heap's calls. What the program says is next in a machine, and which methods wait; heaps drawn; the laws FnWalkNext and FnWalkMethods. The laws FnWalkNext and FnWalkMethods, as runs of the lowered program. -/
import Derived.Test.YtffliemhdjcflaaF3
import Derived.Test.YtffliemhdjcflaaC10
import Derived.Test.YtffliemhdjcflaaE1
import Derived.Test.YtffliemhdjcflaaE2
set_option linter.unusedSimpArgs false
set_option linter.unusedVariables false
namespace Go.Ai
def atM (h : GHeap) (x : Int) : Pl := if x = h.now then (0, 0) else (-1, x)
/-- The call as it is seen on its page. -/
def onPage (h : GHeap) (x : Int) (c : GCall) : GCall := if x = h.now then { c with sender := -1, dead := false } else c
/-- The calls' methods, from a place on. -/
def walkL (m : GMach) : Nat → Pl → Bool → List Int
  | _, _, false => []
  | 0, _, true => []
  | f + 1, x, true => (callAtI m x).method :: walkL m f (callerI m x).1 (callerI m x).2.1
section
variable {p : GProg} {h : GHeap} {l : List Int} {r c : Int}
theorem inM_cells : (inM h r c).cells = c := by unfold inM; split <;> rfl
theorem inM_born : (inM h r c).born = h.born := by unfold inM; split <;> rfl
theorem inM_said : (inM h r c).said = h.said := by unfold inM; split <;> rfl
theorem inM_code : (inM h r c).code = h.code := by unfold inM; split <;> rfl
theorem inM_order : (inM h r c).order = ords r r.toNat := by unfold inM; split <;> rfl
theorem inM_now : (inM h r c).now = if 0 ≤ h.now then 0 else -1 := by unfold inM; split <;> rfl
theorem inM_plen : (inM h r c).pages.length = r.toNat := by unfold inM; split <;> simp [putM, inM0]
theorem inM_tlen : (inM h r c).twins.length = h.calls.length := by unfold inM; split <;> simp [putM, inM0]
theorem inM_tw {i : Nat} {d : GCall} (hd : h.calls[i]? = some d) : (inM h r c).twins[i]? = some (if (i : Int) = h.now then ⟨0, 0, zeroC⟩ else twinC d) := by
  have hil := (List.getElem?_eq_some_iff.1 hd).1
  unfold inM
  by_cases h0 : 0 ≤ h.now
  · rw [if_pos h0]
    simp only [putM, inM0]
    by_cases hi : (i : Int) = h.now
    · rw [if_pos hi, show h.now.toNat = i by omega, List.getElem?_set_self (by simpa using hil)]
    · rw [if_neg hi, List.getElem?_set_ne (by omega)]; simp [hd]
  · rw [if_neg h0, if_neg (by omega)]
    simp [inM0, hd]
theorem inM_pg0 (h0 : 0 ≤ h.now) (hr : 1 ≤ r) {d : GCall} (hd : h.calls[h.now.toNat]? = some d) : (inM h r c).pages = ⟨d.sender, [callFrame d h.now]⟩ :: List.replicate (r.toNat - 1) ⟨-1, []⟩ := by
  unfold inM
  rw [if_pos h0]
  have : twinAt (inM0 h r c h.calls) h.now = twinC d := by simp [twinAt, inM0, hd]
  obtain ⟨j, hj⟩ : ∃ j, r.toNat = j + 1 := ⟨r.toNat - 1, by omega⟩
  show (List.replicate r.toNat (⟨-1, []⟩ : GPage)).set 0 ⟨(twinAt (inM0 h r c h.calls) h.now).left.sender, [callFrame (twinAt (inM0 h r c h.calls) h.now).left h.now]⟩ = _
  rw [this, hj]
  rfl
theorem inM_pgn (h0 : ¬ 0 ≤ h.now) : (inM h r c).pages = List.replicate r.toNat ⟨-1, []⟩ := by
  unfold inM; rw [if_neg h0]; rfl
theorem inM_fr0 (h0 : 0 ≤ h.now) (hr : 1 ≤ r) {d : GCall} (hd : h.calls[h.now.toNat]? = some d) : framesAt (inM h r c) 0 = [callFrame d h.now] ∧ baseAt (inM h r c) 0 = d.sender := by
  simp [framesAt, baseAt, inM_pg0 h0 hr hd]
theorem inM_place (hr : 1 ≤ r) {x : Int} (h0 : 0 ≤ x) {d : GCall} (hd : h.calls[x.toNat]? = some d) : placeI (inM h r c) x = (atM h x, true) := by
  have hil := (List.getElem?_eq_some_iff.1 hd).1
  unfold placeI
  rw [if_pos (inR_iff.2 ⟨h0, by rw [inM_tlen]; omega⟩), inM_tw hd]
  have hx : ((x.toNat : Nat) : Int) = x := by omega
  rw [hx]
  unfold atM
  by_cases hn : x = h.now
  · rw [if_pos hn, if_pos hn]
    have h2 := (inM_fr0 (h := h) (c := c) (by omega) hr (by rw [← hn]; exact hd)).1
    simp only [h2, inM_plen]
    have : inR 0 0 (((1 : Nat) : Int) - 1) = true := by decide
    have h3 : (0 : Int) < max r 0 := by omega
    simp [h3, show inR 0 0 0 = true by decide]
  · rw [if_neg hn, if_neg hn]
    simp [twinC]
theorem inM_top (hr : 1 ≤ r) (hlt : h.now < h.calls.length) : topI (inM h r c) = ((0, 0), decide (0 ≤ h.now)) := by
  unfold topI
  rw [inM_now, inM_plen]
  by_cases h0 : 0 ≤ h.now
  · have hd : h.calls[h.now.toNat]? = some (h.calls[h.now.toNat]'(by omega)) := List.getElem?_eq_getElem _
    rw [if_pos h0, if_pos (inR_iff.2 ⟨by omega, by omega⟩), (inM_fr0 h0 hr hd).1]
    simp [h0]
  · rw [if_neg h0]
    have : ¬ inR (-1) 0 ((r.toNat : Int) - 1) = true := by rw [inR_iff]; omega
    rw [if_neg this]
    simp [h0]
theorem inM_call (hr : 1 ≤ r) {x : Int} (h0 : 0 ≤ x) {d : GCall} (hd : h.calls[x.toNat]? = some d) : callAtI (inM h r c) (atM h x) = onPage h x d := by
  unfold callAtI atM onPage
  by_cases hn : x = h.now
  · rw [if_pos hn, if_pos hn]
    have h2 := (inM_fr0 (h := h) (c := c) (by omega) hr (by rw [← hn]; exact hd)).1
    simp [frameAt, h2, frameCall, callFrame]
  · rw [if_neg hn, if_neg hn]
    have := inM_tw (r := r) (c := c) hd
    rw [if_neg (by omega)] at this
    simp [twinAt, this, twinC]
theorem inM_caller (hr : 1 ≤ r) {x : Int} (h0 : 0 ≤ x) {d : GCall} (hd : h.calls[x.toNat]? = some d) (hs : d.sender = -1 ∨ (0 ≤ d.sender ∧ d.sender < h.calls.length)) :
    callerI (inM h r c) (atM h x) = if d.sender = -1 then ((0, 0), false, true) else (atM h d.sender, true, true) := by
  have hb : (if (atM h x).1 < 0 then (twinAt (inM h r c) (atM h x).2).left.sender else baseAt (inM h r c) (atM h x).1) = d.sender := by
    unfold atM
    by_cases hn : x = h.now
    · rw [if_pos hn]
      have h2 := (inM_fr0 (h := h) (c := c) (by omega) hr (by rw [← hn]; exact hd)).2
      simp [h2]
    · rw [if_neg hn]
      have := inM_tw (r := r) (c := c) hd
      rw [if_neg (by omega)] at this
      simp [twinAt, this, twinC]
  have hz : ¬ (¬ (atM h x).1 < 0 ∧ 0 < (atM h x).2) := by
    unfold atM
    by_cases hn : x = h.now
    · rw [if_pos hn]; simp
    · rw [if_neg hn]; simp
  unfold callerI
  rw [if_neg hz, hb]
  by_cases hm : d.sender = -1
  · rw [if_pos hm, if_pos hm]
  · rw [if_neg hm, if_neg hm]
    obtain ⟨e, he⟩ : ∃ e, h.calls[d.sender.toNat]? = some e := ⟨_, List.getElem?_eq_getElem (by omega)⟩
    rw [inM_place hr (by omega) he]
/-- The calls from one on, on pages. -/
theorem inM_walk (w : WF p h l) (hr : 1 ≤ r) {x : Int} {l' : List Int} (hu : Up h.calls x l') : ∀ (first : Bool), (∀ y ∈ (if first = true then l'.drop 1 else l'), ∀ d, h.calls[y.toNat]? = some d → d.stack.length < 6) →
    walkM (inM h r c) l'.length first (if 0 ≤ x then atM h x else (0, 0)) (decide (0 ≤ x)) = true ∧ walkL (inM h r c) l'.length (if 0 ≤ x then atM h x else (0, 0)) (decide (0 ≤ x)) = l'.map (methOf h.calls) := by
  induction hu with
  | @nil x hx => intro first _; rw [show decide (0 ≤ x) = false from decide_eq_false (by omega)]; simp [walkM, walkL]
  | @cons x d l2 h0 hd hdd ht ih =>
    intro first hst
    rw [if_pos h0, show decide (0 ≤ x) = true from decide_eq_true h0]
    obtain ⟨mm, fm⟩ := w.frm hd
    have hs : d.sender = -1 ∨ (0 ≤ d.sender ∧ d.sender < h.calls.length) := by have := fm.sd; omega
    have hca := inM_call (c := c) hr h0 hd
    have hcr := inM_caller (c := c) hr h0 hd hs
    have hcl : ((if d.sender = -1 then (((0, 0), false, true) : Pl × Bool × Bool) else (atM h d.sender, true, true))).1 = (if 0 ≤ d.sender then atM h d.sender else (0, 0)) ∧ ((if d.sender = -1 then (((0, 0), false, true) : Pl × Bool × Bool) else (atM h d.sender, true, true))).2.1 = decide (0 ≤ d.sender) := by
      rcases hs with hs | hs
      · rw [if_pos hs, if_neg (by omega)]; simp [hs]
      · rw [if_neg (by omega), if_pos hs.1]; simp [hs.1]
    obtain ⟨i1, i2⟩ := ih false (fun y hy => hst y (by cases first with | true => simpa using hy | false => simp only [Bool.false_eq_true, if_false] at hy ⊢; exact List.mem_cons_of_mem _ hy))
    have hon : (onPage h x d).dead = false ∧ (onPage h x d).stack = d.stack ∧ (onPage h x d).method = d.method := by unfold onPage; split <;> simp [hdd]
    constructor
    · simp only [List.length_cons, walkM, hca, hcr, hcl.1, hcl.2, hon.1, hon.2.1]
      rw [if_neg]
      · exact i1
      · rintro (h1 | ⟨h1, h2⟩)
        · cases h1
        · subst h1
          have := hst x (by simp) d hd
          omega
    · simp only [List.length_cons, walkL, hca, hcr, hcl.1, hcl.2, hon.2.2, List.map_cons, i2]
      simp [methOf, hd]
theorem count_set {α : Type} (q : α → Bool) : ∀ (l : List α) (i : Nat) (a b : α), l[i]? = some b → q b = true → q a = false → ((l.set i a).filter q).length + 1 = (l.filter q).length := by
  intro l
  induction l with
  | nil => intro i a b h; simp at h
  | cons y l ih =>
    intro i a b h hb ha
    cases i with
    | zero =>
      simp at h
      subst h
      simp [List.filter_cons, hb, ha]
    | succ i =>
      simp at h
      have := ih i a b h hb ha
      simp only [List.set_cons_succ, List.filter_cons]
      cases q y
      · simpa using this
      · simp; omega
theorem live_map (l : List GCall) : (liveT (l.map twinC)).length = (l.filter (fun d => !d.dead)).length := by
  unfold liveT
  induction l with
  | nil => rfl
  | cons y l ih =>
    simp only [List.map_cons, List.filter_cons]
    have : (decide ((twinC y).page = -1) && !(twinC y).left.dead) = !y.dead := by simp [twinC]
    rw [this]
    cases y.dead <;> simp [ih]
theorem inM_alive (w : WF p h l) (hr : 1 ≤ r) : (alive0 (inM h r c)).toNat = l.length := by
  have hl := (up_live w.up).2 w.al
  unfold alive0
  by_cases h0 : 0 ≤ h.now
  · obtain ⟨d, m, l2, e, hd, hdd, _⟩ := w.head h0
    have h1 : framesN (inM h r c) = 1 := by simp [framesN, inM_pg0 h0 hr hd]
    have h2 : (liveT (inM h r c).twins).length + 1 = (h.calls.filter (fun d => !d.dead)).length := by
      rw [← live_map]
      have : (inM h r c).twins = (h.calls.map twinC).set h.now.toNat ⟨0, 0, zeroC⟩ := by unfold inM; rw [if_pos h0]; rfl
      rw [this]
      exact count_set _ _ _ _ (twinC d) (by simp [hd]) (by simp [twinC, hdd]) (by simp)
    rw [h1]; omega
  · have h1 : framesN (inM h r c) = 0 := by simp [framesN, inM_pgn h0]
    have h2 : (liveT (inM h r c).twins).length = (h.calls.filter (fun d => !d.dead)).length := by
      rw [← live_map]
      have : (inM h r c).twins = h.calls.map twinC := by unfold inM; rw [if_neg h0]; rfl
      rw [this]
    rw [h1]; omega
theorem inM_chained (w : WF p h l) (hr : 1 ≤ r) : chainedI (inM h r c) = true := by
  have hlt : h.now < h.calls.length := by
    cases w.up with
    | nil hx => omega
    | cons h0 hx => have := (List.getElem?_eq_some_iff.1 hx).1; omega
  unfold chainedI
  rw [inM_alive w hr, inM_top hr hlt]
  have := (inM_walk (c := c) w hr w.up true (by simpa using w.wait)).1
  by_cases h0 : 0 ≤ h.now
  · rw [if_pos h0] at this
    have e : atM h h.now = (0, 0) := by simp [atM]
    rw [e] at this
    exact this
  · rw [if_neg h0] at this
    exact this
theorem form_page {n : Int} {d : GCall} (hd : formOk p d n = true) : formOk p { d with sender := -1, dead := false } n = true ∨ n < 0 := by
  by_cases hn : n < 0
  · exact .inr hn
  left
  obtain ⟨m, f⟩ := frm_iff.1 hd
  refine frm_iff.2 ⟨m, f.mr, f.Hm, f.pc, f.tl, f.sl, ⟨by simp, by simp; omega⟩, f.t, f.s, fun e => by simp at e⟩
theorem inM_ordered (hr : 1 ≤ r ∧ r ≤ 4) (hlt : h.now < h.calls.length) : orderedI (inM h r c) = true := by
  unfold orderedI
  rw [inM_order, inM_plen, inM_top hr.1 hlt, inM_now]
  have h1 : allN r.toNat (fun i => decide (0 ≤ indexI (ords r r.toNat) i)) = true ∧ (ords r r.toNat).length = r.toNat ∧ (ords r r.toNat)[(ords r r.toNat).length - 1]? = some 0 := by
    have : r = 1 ∨ r = 2 ∨ r = 3 ∨ r = 4 := by omega
    rcases this with rfl | rfl | rfl | rfl <;> decide
  rw [h1.1, h1.2.2, h1.2.1]
  by_cases h0 : 0 ≤ h.now <;> simp [h0]
theorem inM_shaped (w : WF p h l) (hr : 1 ≤ r) (hc : 14 ≤ c) : shapedI p (inM h r c) = true := by
  have hlt : h.now < h.calls.length := by
    cases w.up with
    | nil hx => omega
    | cons h0 hx => have := (List.getElem?_eq_some_iff.1 hx).1; omega
  unfold shapedI
  rw [Bool.and_eq_true, allN_iff, allN_iff]
  have hempty : ∀ i : Nat, (inM h r c).pages[i]? = some ⟨-1, []⟩ → pageOkI p (inM h r c) i = true := by
    intro i hi
    unfold pageOkI
    rw [hi]
    have hp : placeI (inM h r c) (-1) = ((0, 0), false) := by
      unfold placeI
      rw [if_neg (by rw [inR_iff]; omega)]
    have h1 : inR (-1) (-1) (((inM h r c).twins.length : Int) - 1) = true := inR_iff.2 ⟨by omega, by omega⟩
    have h2 : usedI ⟨-1, []⟩ ≤ (inM h r c).cells := by rw [inM_cells]; simp [usedI]; omega
    simp [hp, h1, h2, allN]
  refine ⟨fun i hi => ?_, fun i hi => ?_⟩
  · rw [inM_plen] at hi
    by_cases h0 : 0 ≤ h.now
    · obtain ⟨d, m, l2, e, hd, hdd, hup, fm, hnm⟩ := w.head h0
      have hpg := inM_pg0 (c := c) h0 hr hd
      cases i with
      | succ i =>
        refine hempty _ ?_
        rw [hpg]
        simp [List.getElem?_replicate]
        omega
      | zero =>
        unfold pageOkI
        rw [hpg]
        simp only [List.getElem?_cons_zero, List.length_singleton]
        have h1 : inR d.sender (-1) (((inM h r c).twins.length : Int) - 1) = true := inR_iff.2 (by rw [inM_tlen]; exact fm.sd)
        have h2 : usedI ⟨d.sender, [callFrame d h.now]⟩ ≤ (inM h r c).cells := by
          rw [inM_cells]
          have ht := fm.tl
          have hm4 : m.temps ≤ 4 := by
            have hp := w.prog
            simp only [progOk, Bool.and_eq_true, List.all_eq_true] at hp
            have := hp.2.2 m (List.mem_of_getElem? fm.Hm)
            simp only [methodOk, Bool.and_eq_true, inR_iff] at this
            exact this.2.1.2
          simp [usedI, callFrame]
          omega
        have h3 : (!(placeI (inM h r c) d.sender).2 || lastI (inM h r c) (placeI (inM h r c) d.sender).1) = true := by
          by_cases hs : d.sender = -1
          · have hp : placeI (inM h r c) (-1) = ((0, 0), false) := by
              unfold placeI
              rw [if_neg (by rw [inR_iff]; omega)]
            rw [hs, hp]; rfl
          · have := fm.sd
            obtain ⟨e, he⟩ : ∃ e, h.calls[d.sender.toNat]? = some e := ⟨_, List.getElem?_eq_getElem (by omega)⟩
            rw [inM_place hr (by omega) he]
            unfold atM
            by_cases hn : d.sender = h.now
            · rw [if_pos hn]
              unfold lastI
              rw [(inM_fr0 h0 hr hd).1]
              simp
            · rw [if_neg hn]; unfold lastI; simp
        have h4 : frameOkI p (inM h r c) 0 0 (callFrame d h.now) = true := by
          unfold frameOkI
          have e1 : frameCall (callFrame d h.now) (-1) = { d with sender := -1, dead := false } := rfl
          have e2 : twinAt (inM h r c) (callFrame d h.now).twin = ⟨0, 0, zeroC⟩ := by
            have := inM_tw (r := r) (c := c) hd
            rw [if_pos (by omega)] at this
            show ((inM h r c).twins[h.now.toNat]?).getD default = _
            rw [this]; rfl
          rw [e1, e2]
          have e3 : formOk p { d with sender := -1, dead := false } (inM h r c).twins.length = true := by
            rw [inM_tlen]
            rcases form_page (frm_iff.2 ⟨m, fm⟩) with h | h
            · exact h
            · omega
          have e4 : inR (callFrame d h.now).twin (-1) (((inM h r c).twins.length : Int) - 1) = true := inR_iff.2 (by rw [inM_tlen]; show -1 ≤ h.now ∧ h.now ≤ _; omega)
          rw [e3, e4]
          simp
        simp [h1, h2, h3, h4, allN]
    · refine hempty i ?_
      rw [inM_pgn h0]
      simp [List.getElem?_replicate, hi]
  · rw [inM_tlen] at hi
    obtain ⟨d, hd⟩ : ∃ d, h.calls[i]? = some d := ⟨_, List.getElem?_eq_getElem hi⟩
    have ht := inM_tw (r := r) (c := c) hd
    have hp := inM_place (c := c) hr (x := (i : Int)) (by omega) (d := d) (by simpa using hd)
    unfold twinOkI
    rw [ht, hp]
    unfold atM
    by_cases hn : (i : Int) = h.now
    · rw [if_pos hn, if_pos hn]
      have hd' : h.calls[h.now.toNat]? = some d := by rw [← hn]; simpa using hd
      have := (inM_fr0 (c := c) (by omega) hr hd').1
      simp [emptyC, zeroC, frameAt, this, callFrame, hn]
    · rw [if_neg hn, if_neg hn]
      have := w.form d (List.mem_of_getElem? hd)
      simp [twinC, inM_tlen, this]
theorem inM_ok (w : WF p h l) (hr : roomsOkI r c = true) : machOkI p (inM h r c) = true := by
  have hok : heapOkI p h = true := by rw [heapOk_eq]; exact ok_of w
  simp only [heapOkI, Bool.and_eq_true, decide_eq_true_eq] at hok
  obtain ⟨h1, h2, h3, h4, h5, _⟩ := hok
  have hr' := hr
  simp only [roomsOkI, Bool.and_eq_true, inR_iff] at hr'
  have hn := inR_iff.1 h2
  unfold machOkI
  rw [h1, inM_plen, inM_cells, show ((r.toNat : Nat) : Int) = r by omega, hr, inM_ordered hr'.1 (by omega), inM_tlen, inM_born, inM_shaped w hr'.1.1 hr'.2.1, inM_chained w hr'.1.1]
  have ht : toldM p (inM h r c) = true := by
    unfold toldM
    unfold toldOk at h3
    rw [inM_born, inM_said, inM_code, inM_now]
    by_cases h0 : 0 ≤ h.now
    · rw [if_pos h0]
      have e1 : ¬ h.now = -1 := by omega
      simpa [e1] using h3
    · rw [if_neg h0]
      have e1 : h.now = -1 := by omega
      simpa [e1] using h3
  rw [ht]
  simpa using h4
end
end Go.Ai
set_option linter.unusedSimpArgs false
set_option linter.unusedVariables false
namespace Go.Ai
attribute [local simp] cnd_ite gS_ite callBy_whole
def walkEnd (m : GMach) : Nat → Pl → Bool → Bool
  | _, _, false => true
  | 0, _, true => false
  | f + 1, x, true => walkEnd m f (callerI m x).1 (callerI m x).2.1
theorem walk_end {m : GMach} : ∀ {f : Nat} {first : Bool} {x : Pl} {b : Bool}, walkM m f first x b = true → walkEnd m f x b = true := by
  intro f
  induction f with
  | zero => intro first x b h; cases b <;> simp [walkM, walkEnd] at h ⊢
  | succ f ih =>
    intro first x b h
    cases b with
    | false => rfl
    | true =>
      simp only [walkM] at h
      split at h
      · cases h
      · exact ih h
section
variable {mt : Nat → Nat → Option Nat}
def DrawH (k : Nat) (x : R) : Prop := ∃ p h, progOk p = true ∧ SmallH h ∧ Gv k (.tuple [aProg p, aHeap h]) x
theorem draw_23 (b : List Nat) (hl : b.length ≤ 9223372036854775807) (hb : ∀ x ∈ b, x < 256) (k : Nat) : DrawH k (run AP mt 23 [lB b] ⟨k, noObj⟩) := by
  have q45 := open_45 (mt := mt) b hl k
  have hc : Cd (b.take 2000) := ⟨fun x hx => hb x (List.mem_of_mem_take hx), by simp; omega⟩
  rw [run_evS AP_23 _ _ rfl]
  simp [c_23, q45]
  have D : DS (k + 1) k (b.take 2000) (updO noObj k (some [[lB (b.take 2000), vi 0]])) 0 (k + 1) (updO noObj k (some [[lB (b.take 2000), vi 0]])) := ⟨Nat.le_refl _, by omega, ⟨0, by omega, by omega, by unfold Rdr; simp [updO]⟩, fun _ _ _ => rfl⟩
  refine bindR (P := fun y => DrawH k y) (heap_44 (mt := mt) D hc (by omega)) ?_
  rintro v G ⟨p, h, cv, sv, n', g', rfl, rfl, D1, hp, hs, fc, fs, k1, k2⟩
  have hk1 := D1.kn
  have hm : ∀ id es, updO g' k none id = some es → g' id = some es := by
    intro id es he
    simp only [updO] at he
    split at he
    · cases he
    · exact he
  simp [k1.k, k1.g, k1.p, k1.c, k2.k, k2.g, k2.p, k2.c]
  exact ⟨p, h, hp, hs, Gv.some (by omega) (frz_pair (frz_more hm 6 _ _ fc) (frz_more hm 6 _ _ fs) [] rfl)⟩
theorem ml_27 (m : GMach) (hM : ShM m) (k : Nat) (S : List KF) (outF : List Int) (hE : ∀ fr n g v, k ≤ n → RepI k n outF v g → fr 5 = v → OutI k outF (unw AP mt (.exit 0) fr ⟨n, g⟩ S)) :
    ∀ (f : Nat) (x : Pl) (b : Bool) (out : List Int) (v : AVal) (g : Heap') (n : Nat), walkEnd m f x b = true → (b = true → PlOk m x) → f + out.length ≤ 2000000 → k ≤ n → RepI k n out v g → outF = out ++ walkL m f x b →
      OutI k outF (evS AP mt (.loop l_27_0) (upd (upd (upd (upd fr0 7 (.bool b)) 6 (.pbox [vi x.1, vi x.2])) 5 v) 3 (.pbox [vi m.cells, lPage m.pages, lInt m.order, vi m.now, lTwin m.twins, vi m.born, lVal m.said, vi m.code])) ⟨n, g⟩ S) := by
  intro f
  induction f with
  | zero =>
    intro x b out v g n he hb hf hn hr ho
    obtain ⟨k1, k2, k3, k4, k5, k6⟩ := hr.vals
    cases b with
    | true => simp [walkEnd] at he
    | false =>
      rw [S_loop]
      simp [u_27_0, b_27_0, k1, k2, k3]
      exact hE _ _ _ v hn (by rw [ho]; simpa [walkL] using hr) (by simp)
  | succ f ih =>
    intro x b out v g n he hb hf hn hr ho
    obtain ⟨k1, k2, k3, k4, k5, k6⟩ := hr.vals
    cases b with
    | false =>
      rw [S_loop]
      simp [u_27_0, b_27_0, k1, k2, k3]
      exact hE _ _ _ v hn (by rw [ho]; simpa [walkL] using hr) (by simp)
    | true =>
      have hx := hb rfl
      have q53 := m_53 (mt := mt) m hM x hx
      have q59 := m_59 (mt := mt) m hM x hx
      unfold Q at q53 q59
      rw [S_loop]
      obtain ⟨N, hN⟩ : ∃ N, nxt AP mt 53 [aMach m, aPl x] n = N := ⟨_, rfl⟩
      have hNn : n ≤ N := by rw [← hN]; exact le_nxt (Nat.le_refl _)
      obtain ⟨v', g', h2, h3⟩ := (hr.mono hNn).app (by omega) (callAtI m x).method (by omega)
      obtain ⟨j1, j2, j3, j4, j5, j6⟩ := h3.vals
      simp [u_27_0, b_27_0, k1, k2, k3, q53, hN, h2, j1, j2, j3, q59]
      refine ih (callerI m x).1 (callerI m x).2.1 (out ++ [(callAtI m x).method]) v' g' _ he (fun e => caller_ok hx e) (by simp; omega) ?_ (h3.mono ?_) (by rw [ho]; simp [walkL])
      · exact Nat.le_trans (by omega) nxt_le
      · exact nxt_le
theorem m_27 (p : GProg) (m : GMach) (hP : ShP p) (hM : ShM m) (hok : machOkI p m = true) (ha : (alive0 m).toNat ≤ 1000) (k : Nat) : OutI k (walkL m (alive0 m).toNat (topI m).1 (topI m).2) (run AP mt 27 [aProg p, aMach m] ⟨k, noObj⟩) := by
  have q51 := m_51 (mt := mt) p m hP hM
  rw [hok] at q51
  have q52 := m_52 (mt := mt) m hM
  unfold Q at q51 q52
  have hch : chainedI m = true := by
    simp only [machOkI, Bool.and_eq_true] at hok
    exact hok.2.2.2.2.2.2
  rw [run_evS AP_27 _ _ rfl]
  simp [c_27, q51, q52]
  refine ml_27 (mt := mt) m hM k _ _ (fun fr n g v hn hr h5 => ?_) (alive0 m).toNat (topI m).1 (topI m).2 [] .nils noObj _ (walk_end hch) (fun e => top_ok e) (by simp; omega) (le_nxt (le_nxt (Nat.le_refl _))) (.inl ⟨rfl, rfl, rfl⟩) (by simp)
  obtain ⟨k1, k2, k3, k4, k5, k6⟩ := hr.vals
  simp [h5, k1, k2, k3]
  exact ⟨v, n, g, rfl, hn, hr⟩
theorem lm_24 (l : List Int) (hl : l.length ≤ 2097152) : Q mt 24 [lInt l, lInt l] (.bool true) := by
  refine Q.of rfl (fun k => ?_)
  rw [run_evS AP_24 _ _ rfl]
  simp [c_24]
  refine loop_for (Gv k (.bool true)) l.length (fun i (_ : Unit) => upd (upd (upd fr0 5 (vi i)) 1 (lInt l)) 0 (lInt l)) (fun i _ G => k ≤ G.next ∧ G.obj = noObj) (fun _ _ _ => u_24_0) ?_ ?_ l.length 0 () ⟨k, noObj⟩ (by omega) ⟨Nat.le_refl _, rfl⟩
  · rintro - ⟨n, g⟩ ⟨hn, rfl⟩
    simp [b_24_0]
    exact Gv.bool hn rfl
  · rintro i - ⟨n, g⟩ hi ⟨hn, rfl⟩ next
    have hc : (i : Int) < l.length := by omega
    have hwr : IntKind.i64.wrap ((i : Int) + 1) = (i : Int) + 1 := wrap_id (by omega) (by omega)
    obtain ⟨x, hx⟩ : ∃ x, l[i]? = some x := ⟨_, List.getElem?_eq_getElem hi⟩
    have hix := fun g => idx_ok (g := g) (k := .i64) (w_Int l) (show (0:Int) ≤ i by omega) (by simpa using hc)
    simp [b_24_0, hc, hwr, hix, hx]
    simpa using next () ⟨n, noObj⟩ ⟨hn, rfl⟩
end
theorem inM_sh {p : GProg} {h : GHeap} {l : List Int} {r c : Int} (w : WF p h l) (hs : SmallH h) (hr : 1 ≤ r ∧ r ≤ 4) : ShM (inM h r c) := by
  have hcl := hs.c
  have hl := hs.l
  have hsd := hs.s
  have hpl : (inM h r c).pages.length = r.toNat := inM_plen
  refine ⟨by rw [inM_plen]; omega, fun g hg => ?_, by rw [inM_order]; simp [ords]; omega, by rw [inM_tlen]; omega, fun t ht => ?_, by rw [inM_said]; omega⟩
  · by_cases h0 : 0 ≤ h.now
    · obtain ⟨d, m, l2, e, hd, _⟩ := w.head h0
      rw [inM_pg0 h0 hr.1 hd] at hg
      rcases List.mem_cons.1 hg with rfl | hg
      · refine ⟨by simp, fun f hf => ?_⟩
        simp only [List.mem_singleton] at hf
        subst hf
        have := hcl d (List.mem_of_getElem? hd)
        exact ⟨by simp only [callFrame]; omega, by simp only [callFrame]; omega⟩
      · have := List.eq_of_mem_replicate hg
        subst this
        simp
    · rw [inM_pgn h0] at hg
      have := List.eq_of_mem_replicate hg
      subst this
      simp
  · obtain ⟨i, hi⟩ := List.getElem?_of_mem ht
    have hil := (List.getElem?_eq_some_iff.1 hi).1
    rw [inM_tlen] at hil
    obtain ⟨d, hd⟩ : ∃ d, h.calls[i]? = some d := ⟨_, List.getElem?_eq_getElem hil⟩
    rw [inM_tw hd] at hi
    injection hi with hi
    subst hi
    have := hcl d (List.mem_of_getElem? hd)
    split
    · simp [zeroC]
    · simp only [twinC]; omega
end Go.Ai
set_option linter.unusedSimpArgs false
set_option linter.unusedVariables false
namespace Go.Ai
attribute [local simp] cnd_ite gS_ite callBy_whole
section
variable {mt : Nat → Nat → Option Nat}
theorem WF.now_lt {p : GProg} {h : GHeap} {l : List Int} (w : WF p h l) : h.now < h.calls.length := by
  cases w.up with
  | nil hx => omega
  | cons h0 hx => have := (List.getElem?_eq_some_iff.1 hx).1; omega
theorem WF.neg {p : GProg} {h : GHeap} {l : List Int} (w : WF p h l) (hn : h.now < 0) : l = [] := by
  cases w.up with
  | nil hx => rfl
  | cons h0 hx => omega
theorem law_3 (b : List Nat) (hb : b.length ≤ 9223372036854775807 ∧ ∀ x ∈ b, x < 256) (k : Nat) : Gv k (.bool true) (run AP mt 3 [lB b] ⟨k, noObj⟩) := by
  rw [run_evS AP_3 _ _ rfl]
  by_cases hlen : (1048576 : Int) < b.length
  · simp [c_3, hlen]
    exact Gv.bool (Nat.le_refl _) rfl
  obtain ⟨p, h, hp, hs, hd⟩ := draw_23 (mt := mt) b hb.1 hb.2 k
  have qd := q_at (AP' := AP) (mt := mt) (f := 23) (as := [lB b]) rfl hd noObj
  obtain ⟨_, _, _, _, _, _, hP⟩ := prog_cons hp
  have hH := hs.sh
  have q14 := q_of (AP := AP) (mt := mt) (f := 14) (as := [aProg p, aHeap h]) rfl (fun k => (m_14 p h hP hH k).gv)
  have q13 := q_of (AP := AP) (mt := mt) (f := 13) (as := [aProg p, aHeap h]) rfl (fun k => (r_13 p h hP hH k).gv)
  have q25 := r_25 (mt := mt) p h hP hH
  have hml : (methodsS p h).length ≤ 60 := by
    unfold methodsS
    split
    · rename_i hok
      have := up_len (wf_of hok).up
      have := hs.l
      simp; omega
    · simp
  have q24 := lm_24 (mt := mt) (methodsS p h) (by omega)
  unfold Q at q25 q24
  cases hok : heapOkS p h with
  | false =>
    rw [hok] at q25
    simp [c_3, hlen, qd, q14, q13, q24, q25]
    exact Gv.bool (by repeat (first | exact Nat.le_refl _ | apply le_nxt)) rfl
  | true =>
  rw [hok] at q25
  have w := wf_of hok
  have hr : roomsOkI 3 20 = true := by decide
  have hM := inM_sh (c := 20) w hs (show (1 : Int) ≤ 3 ∧ (3 : Int) ≤ 4 by decide)
  have q21 := q_of (AP := AP) (mt := mt) (f := 21) (as := [aProg p, aHeap h, vi 3, vi 20]) rfl (fun k => i_21 p h 3 20 hP hH hok hr k)
  have hlt := w.now_lt
  have htop := inM_top (r := 3) (c := 20) (by decide) hlt
  have hal := inM_alive (r := 3) (c := 20) w (by decide)
  have hwl : walkL (inM h 3 20) (alive0 (inM h 3 20)).toNat (topI (inM h 3 20)).1 (topI (inM h 3 20)).2 = methodsS p h := by
    have := (inM_walk (r := 3) (c := 20) w (by decide) w.up true (by simpa using w.wait)).2
    rw [hal, htop]
    unfold methodsS
    rw [if_pos hok]
    by_cases h0 : 0 ≤ h.now
    · rw [if_pos h0, show atM h h.now = (0, 0) by simp [atM]] at this
      exact this
    · rw [if_neg h0] at this
      exact this
  have hlc := up_len w.up
  have q27 := q_of (AP := AP) (mt := mt) (f := 27) (as := [aProg p, aMach (inM h 3 20)]) rfl (fun k => (m_27 p (inM h 3 20) hP hM (inM_ok w hr) (by rw [hal]; have := hs.l; omega) k).gv)
  rw [hwl] at q27
  have q26 := m_26 (mt := mt) h hH.l
  have hdl : (methodsS p h).length = deepS h := by unfold methodsS deepS; rw [if_pos hok]; simp
  rw [← hdl] at q26
  unfold Q at q26
  by_cases hz : methodsS p h = []
  · have hz1 : (methodsS p h = []) = True := eq_true hz
    have hz2 : ((methodsS p h).length = 0) = True := eq_true (by rw [hz]; rfl)
    generalize methodsS p h = M at *
    simp [c_3, hlen, qd, q14, q13, q24, q25, q21, q26, q27, hz1, hz2]
    exact Gv.bool (by repeat (first | exact Nat.le_refl _ | apply le_nxt)) rfl
  · have h0 : 0 ≤ h.now := by
      rcases Int.lt_or_le h.now 0 with hneg | h0
      · exfalso
        apply hz
        unfold methodsS
        rw [if_pos hok]
        rw [w.neg hneg]; rfl
      · exact h0
    obtain ⟨d, m, l2, e, hd2, _⟩ := w.head h0
    have hm0 : (methodsS p h)[0]? = some d.method := by
      unfold methodsS
      rw [if_pos hok, e]
      simp [methOf, hd2]
    have hlz : 0 < (methodsS p h).length := by
      rcases Nat.eq_zero_or_pos (methodsS p h).length with hh | hh
      · exact absurd (List.length_eq_zero_iff.1 hh) hz
      · exact hh
    have hix := fun g => idx_ok (g := g) (k := .i64) (w_Call h.calls) h0 (by simpa using hlt)
    have hix0 := fun g => idx_ok (g := g) (k := .i64) (w_Int (methodsS p h)) (n := 0) (by decide) (by simp; omega)
    have hz1 : (methodsS p h = []) = False := eq_false hz
    have hz2 : ((methodsS p h).length = 0) = False := eq_false (by omega)
    generalize methodsS p h = M at *
    simp [c_3, hlen, qd, q14, q13, q24, q25, q21, q26, q27, hix, hix0, hm0, hd2, hz1, hz2]
    exact Gv.bool (by repeat (first | exact Nat.le_refl _ | apply le_nxt)) rfl
end
end Go.Ai
