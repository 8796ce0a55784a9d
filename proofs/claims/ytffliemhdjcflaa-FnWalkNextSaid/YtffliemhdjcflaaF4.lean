/- Machines: a heap moved in is a machine that is ok, and has the heap's calls. What the program says is next in a machine, and which methods wait; heaps drawn; the laws FnWalkNext and FnWalkMethods. The laws FnWalkNext and FnWalkMethods, as runs of the lowered program. -/
import Derived.Test.YtffliemhdjcflaaF3
import Derived.Test.YtffliemhdjcflaaC10
import Derived.Test.YtffliemhdjcflaaE1
import Derived.Test.YtffliemhdjcflaaE2
set_option linter.unusedSimpArgs false
set_option linter.unusedVariables false
namespace Go.Ai
def atM (h : GHeap) (x : Int) : Pl := if x = h.now then (0, 0) else (-1, x)
/-- The call as it is seen on its page. -/
def onPage (h : GHeap) (x : Int) (c : GCall) : GCall := if x = h.now then { c with sender := -1, dead := false } else c
/-- The calls' methods, from a place on. -/
def walkL (m : GMach) : Nat → Pl → Bool → List Int
  | _, _, false => []
  | 0, _, true => []
  | f + 1, x, true => (callAtI m x).method :: walkL m f (callerI m x).1 (callerI m x).2.1
section
variable {p : GProg} {h : GHeap} {l : List Int} {r c : Int}
theorem inM_cells : (inM h r c).cells = c := by unfold inM; split <;> rfl
theorem inM_born : (inM h r c).born = h.born := by unfold inM; split <;> rfl
theorem inM_said : (inM h r c).said = h.said := by unfold inM; split <;> rfl
theorem inM_code : (inM h r c).code = h.code := by unfold inM; split <;> rfl
theorem inM_order : (inM h r c).order = ords r r.toNat := by unfold inM; split <;> rfl
theorem inM_now : (inM h r c).now = if 0 ≤ h.now then 0 else -1 := by unfold inM; split <;> rfl
theorem inM_plen : (inM h r c).pages.length = r.toNat := by unfold inM; split <;> simp [putM, inM0]
theorem inM_tlen : (inM h r c).twins.length = h.calls.length := by unfold inM; split <;> simp [putM, inM0]
theorem inM_tw {i : Nat} {d : GCall} (hd : h.calls[i]? = some d) : (inM h r c).twins[i]? = some (if (i : Int) = h.now then ⟨0, 0, zeroC⟩ else twinC d) := by
  have hil := (List.getElem?_eq_some_iff.1 hd).1
  unfold inM
  by_cases h0 : 0 ≤ h.now
  · rw [if_pos h0]
    simp only [putM, inM0]
    by_cases hi : (i : Int) = h.now
    · rw [if_pos hi, show h.now.toNat = i by omega, List.getElem?_set_self (by simpa using hil)]
    · rw [if_neg hi, List.getElem?_set_ne (by omega)]; simp [hd]
  · rw [if_neg h0, if_neg (by omega)]
    simp [inM0, hd]
theorem inM_pg0 (h0 : 0 ≤ h.now) (hr : 1 ≤ r) {d : GCall} (hd : h.calls[h.now.toNat]? = some d) : (inM h r c).pages = ⟨d.sender, [callFrame d h.now]⟩ :: List.replicate (r.toNat - 1) ⟨-1, []⟩ := by
  unfold inM
  rw [if_pos h0]
  have : twinAt (inM0 h r c h.calls) h.now = twinC d := by simp [twinAt, inM0, hd]
  obtain ⟨j, hj⟩ : ∃ j, r.toNat = j + 1 := ⟨r.toNat - 1, by omega⟩
  show (List.replicate r.toNat (⟨-1, []⟩ : GPage)).set 0 ⟨(twinAt (inM0 h r c h.calls) h.now).left.sender, [callFrame (twinAt (inM0 h r c h.calls) h.now).left h.now]⟩ = _
  rw [this, hj]
  rfl
theorem inM_pgn (h0 : ¬ 0 ≤ h.now) : (inM h r c).pages = List.replicate r.toNat ⟨-1, []⟩ := by
  unfold inM; rw [if_neg h0]; rfl
theorem inM_fr0 (h0 : 0 ≤ h.now) (hr : 1 ≤ r) {d : GCall} (hd : h.calls[h.now.toNat]? = some d) : framesAt (inM h r c) 0 = [callFrame d h.now] ∧ baseAt (inM h r c) 0 = d.sender := by
  simp [framesAt, baseAt, inM_pg0 h0 hr hd]
theorem inM_place (hr : 1 ≤ r) {x : Int} (h0 : 0 ≤ x) {d : GCall} (hd : h.calls[x.toNat]? = some d) : placeI (inM h r c) x = (atM h x, true) := by
  have hil := (List.getElem?_eq_some_iff.1 hd).1
  unfold placeI
  rw [if_pos (inR_iff.2 ⟨h0, by rw [inM_tlen]; omega⟩), inM_tw hd]
  have hx : ((x.toNat : Nat) : Int) = x := by omega
  rw [hx]
  unfold atM
  by_cases hn : x = h.now
  · rw [if_pos hn, if_pos hn]
    have h2 := (inM_fr0 (h := h) (c := c) (by omega) hr (by rw [← hn]; exact hd)).1
    simp only [h2, inM_plen]
    have : inR 0 0 (((1 : Nat) : Int) - 1) = true := by decide
    have h3 : (0 : Int) < max r 0 := by omega
    simp [h3, show inR 0 0 0 = true by decide]
  · rw [if_neg hn, if_neg hn]
    simp [twinC]
theorem inM_top (hr : 1 ≤ r) (hlt : h.now < h.calls.length) : topI (inM h r c) = ((0, 0), decide (0 ≤ h.now)) := by
  unfold topI
  rw [inM_now, inM_plen]
  by_cases h0 : 0 ≤ h.now
  · have hd : h.calls[h.now.toNat]? = some (h.calls[h.now.toNat]'(by omega)) := List.getElem?_eq_getElem _
    rw [if_pos h0, if_pos (inR_iff.2 ⟨by omega, by omega⟩), (inM_fr0 h0 hr hd).1]
    simp [h0]
  · rw [if_neg h0]
    have : ¬ inR (-1) 0 ((r.toNat : Int) - 1) = true := by rw [inR_iff]; omega
    rw [if_neg this]
    simp [h0]
theorem inM_call (hr : 1 ≤ r) {x : Int} (h0 : 0 ≤ x) {d : GCall} (hd : h.calls[x.toNat]? = some d) : callAtI (inM h r c) (atM h x) = onPage h x d := by
  unfold callAtI atM onPage
  by_cases hn : x = h.now
  · rw [if_pos hn, if_pos hn]
    have h2 := (inM_fr0 (h := h) (c := c) (by omega) hr (by rw [← hn]; exact hd)).1
    simp [frameAt, h2, frameCall, callFrame]
  · rw [if_neg hn, if_neg hn]
    have := inM_tw (r := r) (c := c) hd
    rw [if_neg (by omega)] at this
    simp [twinAt, this, twinC]
theorem inM_caller (hr : 1 ≤ r) {x : Int} (h0 : 0 ≤ x) {d : GCall} (hd : h.calls[x.toNat]? = some d) (hs : d.sender = -1 ∨ (0 ≤ d.sender ∧ d.sender < h.calls.length)) :
    callerI (inM h r c) (atM h x) = if d.sender = -1 then ((0, 0), false, true) else (atM h d.sender, true, true) := by
  have hb : (if (atM h x).1 < 0 then (twinAt (inM h r c) (atM h x).2).left.sender else baseAt (inM h r c) (atM h x).1) = d.sender := by
    unfold atM
    by_cases hn : x = h.now
    · rw [if_pos hn]
      have h2 := (inM_fr0 (h := h) (c := c) (by omega) hr (by rw [← hn]; exact hd)).2
      simp [h2]
    · rw [if_neg hn]
      have := inM_tw (r := r) (c := c) hd
      rw [if_neg (by omega)] at this
      simp [twinAt, this, twinC]
  have hz : ¬ (¬ (atM h x).1 < 0 ∧ 0 < (atM h x).2) := by
    unfold atM
    by_cases hn : x = h.now
    · rw [if_pos hn]; simp
    · rw [if_neg hn]; simp
  unfold callerI
  rw [if_neg hz, hb]
  by_cases hm : d.sender = -1
  · rw [if_pos hm, if_pos hm]
  · rw [if_neg hm, if_neg hm]
    obtain ⟨e, he⟩ : ∃ e, h.calls[d.sender.toNat]? = some e := ⟨_, List.getElem?_eq_getElem (by omega)⟩
    rw [inM_place hr (by omega) he]
/-- The calls from one on, on pages. -/
theorem inM_walk (w : WF p h l) (hr : 1 ≤ r) {x : Int} {l' : List Int} (hu : Up h.calls x l') : ∀ (first : Bool), (∀ y ∈ (if first = true then l'.drop 1 else l'), ∀ d, h.calls[y.toNat]? = some d → d.stack.length < 6) →
    walkM (inM h r c) l'.length first (if 0 ≤ x then atM h x else (0, 0)) (decide (0 ≤ x)) = true ∧ walkL (inM h r c) l'.length (if 0 ≤ x then atM h x else (0, 0)) (decide (0 ≤ x)) = l'.map (methOf h.calls) := by
  induction hu with
  | @nil x hx => intro first _; rw [show decide (0 ≤ x) = false from decide_eq_false (by omega)]; simp [walkM, walkL]
  | @cons x d l2 h0 hd hdd ht ih =>
    intro first hst
    rw [if_pos h0, show decide (0 ≤ x) = true from decide_eq_true h0]
    obtain ⟨mm, fm⟩ := w.frm hd
    have hs : d.sender = -1 ∨ (0 ≤ d.sender ∧ d.sender < h.calls.length) := by have := fm.sd; omega
    have hca := inM_call (c := c) hr h0 hd
    have hcr := inM_caller (c := c) hr h0 hd hs
    have hcl : ((if d.sender = -1 then (((0, 0), false, true) : Pl × Bool × Bool) else (atM h d.sender, true, true))).1 = (if 0 ≤ d.sender then atM h d.sender else (0, 0)) ∧ ((if d.sender = -1 then (((0, 0), false, true) : Pl × Bool × Bool) else (atM h d.sender, true, true))).2.1 = decide (0 ≤ d.sender) := by
      rcases hs with hs | hs
      · rw [if_pos hs, if_neg (by omega)]; simp [hs]
      · rw [if_neg (by omega), if_pos hs.1]; simp [hs.1]
    obtain ⟨i1, i2⟩ := ih false (fun y hy => hst y (by cases first with | true => simpa using hy | false => simp only [Bool.false_eq_true, if_false] at hy ⊢; exact List.mem_cons_of_mem _ hy))
    have hon : (onPage h x d).dead = false ∧ (onPage h x d).stack = d.stack ∧ (onPage h x d).method = d.method := by unfold onPage; split <;> simp [hdd]
    constructor
    · simp only [List.length_cons, walkM, hca, hcr, hcl.1, hcl.2, hon.1, hon.2.1]
      rw [if_neg]
      · exact i1
      · rintro (h1 | ⟨h1, h2⟩)
        · cases h1
        · subst h1
          have := hst x (by simp) d hd
          omega
    · simp only [List.length_cons, walkL, hca, hcr, hcl.1, hcl.2, hon.2.2, List.map_cons, i2]
      simp [methOf, hd]
theorem count_set {α : Type} (q : α → Bool) : ∀ (l : List α) (i : Nat) (a b : α), l[i]? = some b → q b = true → q a = false → ((l.set i a).filter q).length + 1 = (l.filter q).length := by
  intro l
  induction l with
  | nil => intro i a b h; simp at h
  | cons y l ih =>
    intro i a b h hb ha
    cases i with
    | zero =>
      simp at h
      subst h
      simp [List.filter_cons, hb, ha]
    | succ i =>
      simp at h
      have := ih i a b h hb ha
      simp only [List.set_cons_succ, List.filter_cons]
      cases q y
      · simpa using this
      · simp; omega
theorem live_map (l : List GCall) : (liveT (l.map twinC)).length = (l.filter (fun d => !d.dead)).length := by
  unfold liveT
  induction l with
  | nil => rfl
  | cons y l ih =>
    simp only [List.map_cons, List.filter_cons]
    have : (decide ((twinC y).page = -1) && !(twinC y).left.dead) = !y.dead := by simp [twinC]
    rw [this]
    cases y.dead <;> simp [ih]
theorem inM_alive (w : WF p h l) (hr : 1 ≤ r) : (alive0 (inM h r c)).toNat = l.length := by
  have hl := (up_live w.up).2 w.al
  unfold alive0
  by_cases h0 : 0 ≤ h.now
  · obtain ⟨d, m, l2, e, hd, hdd, _⟩ := w.head h0
    have h1 : framesN (inM h r c) = 1 := by simp [framesN, inM_pg0 h0 hr hd]
    have h2 : (liveT (inM h r c).twins).length + 1 = (h.calls.filter (fun d => !d.dead)).length := by
      rw [← live_map]
      have : (inM h r c).twins = (h.calls.map twinC).set h.now.toNat ⟨0, 0, zeroC⟩ := by unfold inM; rw [if_pos h0]; rfl
      rw [this]
      exact count_set _ _ _ _ (twinC d) (by simp [hd]) (by simp [twinC, hdd]) (by simp)
    rw [h1]; omega
  · have h1 : framesN (inM h r c) = 0 := by simp [framesN, inM_pgn h0]
    have h2 : (liveT (inM h r c).twins).length = (h.calls.filter (fun d => !d.dead)).length := by
      rw [← live_map]
      have : (inM h r c).twins = h.calls.map twinC := by unfold inM; rw [if_neg h0]; rfl
      rw [this]
    rw [h1]; omega
theorem inM_chained (w : WF p h l) (hr : 1 ≤ r) : chainedI (inM h r c) = true := by
  have hlt : h.now < h.calls.length := by
    cases w.up with
    | nil hx => omega
    | cons h0 hx => have := (List.getElem?_eq_some_iff.1 hx).1; omega
  unfold chainedI
  rw [inM_alive w hr, inM_top hr hlt]
  have := (inM_walk (c := c) w hr w.up true (by simpa using w.wait)).1
  by_cases h0 : 0 ≤ h.now
  · rw [if_pos h0] at this
    have e : atM h h.now = (0, 0) := by simp [atM]
    rw [e] at this
    exact this
  · rw [if_neg h0] at this
    exact this
theorem form_page {n : Int} {d : GCall} (hd : formOk p d n = true) : formOk p { d with sender := -1, dead := false } n = true ∨ n < 0 := by
  by_cases hn : n < 0
  · exact .inr hn
  left
  obtain ⟨m, f⟩ := frm_iff.1 hd
  refine frm_iff.2 ⟨m, f.mr, f.Hm, f.pc, f.tl, f.sl, ⟨by simp, by simp; omega⟩, f.t, f.s, fun e => by simp at e⟩
theorem inM_ordered (hr : 1 ≤ r ∧ r ≤ 4) (hlt : h.now < h.calls.length) : orderedI (inM h r c) = true := by
  unfold orderedI
  rw [inM_order, inM_plen, inM_top hr.1 hlt, inM_now]
  have h1 : allN r.toNat (fun i => decide (0 ≤ indexI (ords r r.toNat) i)) = true ∧ (ords r r.toNat).length = r.toNat ∧ (ords r r.toNat)[(ords r r.toNat).length - 1]? = some 0 := by
    have : r = 1 ∨ r = 2 ∨ r = 3 ∨ r = 4 := by omega
    rcases this with rfl | rfl | rfl | rfl <;> decide
  rw [h1.1, h1.2.2, h1.2.1]
  by_cases h0 : 0 ≤ h.now <;> simp [h0]
theorem inM_shaped (w : WF p h l) (hr : 1 ≤ r) (hc : 14 ≤ c) : shapedI p (inM h r c) = true := by
  have hlt : h.now < h.calls.length := by
    cases w.up with
    | nil hx => omega
    | cons h0 hx => have := (List.getElem?_eq_some_iff.1 hx).1; omega
  unfold shapedI
  rw [Bool.and_eq_true, allN_iff, allN_iff]
  have hempty : ∀ i : Nat, (inM h r c).pages[i]? = some ⟨-1, []⟩ → pageOkI p (inM h r c) i = true := by
    intro i hi
    unfold pageOkI
    rw [hi]
    have hp : placeI (inM h r c) (-1) = ((0, 0), false) := by
      unfold placeI
      rw [if_neg (by rw [inR_iff]; omega)]
    have h1 : inR (-1) (-1) (((inM h r c).twins.length : Int) - 1) = true := inR_iff.2 ⟨by omega, by omega⟩
    have h2 : usedI ⟨-1, []⟩ ≤ (inM h r c).cells := by rw [inM_cells]; simp [usedI]; omega
    simp [hp, h1, h2, allN]
  refine ⟨fun i hi => ?_, fun i hi => ?_⟩
  · rw [inM_plen] at hi
    by_cases h0 : 0 ≤ h.now
    · obtain ⟨d, m, l2, e, hd, hdd, hup, fm, hnm⟩ := w.head h0
      have hpg := inM_pg0 (c := c) h0 hr hd
      cases i with
      | succ i =>
        refine hempty _ ?_
        rw [hpg]
        simp [List.getElem?_replicate]
        omega
      | zero =>
        unfold pageOkI
        rw [hpg]
        simp only [List.getElem?_cons_zero, List.length_singleton]
        have h1 : inR d.sender (-1) (((inM h r c).twins.length : Int) - 1) = true := inR_iff.2 (by rw [inM_tlen]; exact fm.sd)
        have h2 : usedI ⟨d.sender, [callFrame d h.now]⟩ ≤ (inM h r c).cells := by
          rw [inM_cells]
          have ht := fm.tl
          have hm4 : m.temps ≤ 4 := by
            have hp := w.prog
            simp only [progOk, Bool.and_eq_true, List.all_eq_true] at hp
            have := hp.2.2 m (List.mem_of_getElem? fm.Hm)
            simp only [methodOk, Bool.and_eq_true, inR_iff] at this
            exact this.2.1.2
          simp [usedI, callFrame]
          omega
        have h3 : (!(placeI (inM h r c) d.sender).2 || lastI (inM h r c) (placeI (inM h r c) d.sender).1) = true := by
          by_cases hs : d.sender = -1
          · have hp : placeI (inM h r c) (-1) = ((0, 0), false) := by
              unfold placeI
              rw [if_neg (by rw [inR_iff]; omega)]
            rw [hs, hp]; rfl
          · have := fm.sd
            obtain ⟨e, he⟩ : ∃ e, h.calls[d.sender.toNat]? = some e := ⟨_, List.getElem?_eq_getElem (by omega)⟩
            rw [inM_place hr (by omega) he]
            unfold atM
            by_cases hn : d.sender = h.now
            · rw [if_pos hn]
              unfold lastI
              rw [(inM_fr0 h0 hr hd).1]
              simp
            · rw [if_neg hn]; unfold lastI; simp
        have h4 : frameOkI p (inM h r c) 0 0 (callFrame d h.now) = true := by
          unfold frameOkI
          have e1 : frameCall (callFrame d h.now) (-1) = { d with sender := -1, dead := false } := rfl
          have e2 : twinAt (inM h r c) (callFrame d h.now).twin = ⟨0, 0, zeroC⟩ := by
            have := inM_tw (r := r) (c := c) hd
            rw [if_pos (by omega)] at this
            show ((inM h r c).twins[h.now.toNat]?).getD default = _
            rw [this]; rfl
          rw [e1, e2]
          have e3 : formOk p { d with sender := -1, dead := false } (inM h r c).twins.length = true := by
            rw [inM_tlen]
            rcases form_page (frm_iff.2 ⟨m, fm⟩) with h | h
            · exact h
            · omega
          have e4 : inR (callFrame d h.now).twin (-1) (((inM h r c).twins.length : Int) - 1) = true := inR_iff.2 (by rw [inM_tlen]; show -1 ≤ h.now ∧ h.now ≤ _; omega)
          rw [e3, e4]
          simp
        simp [h1, h2, h3, h4, allN]
    · refine hempty i ?_
      rw [inM_pgn h0]
      simp [List.getElem?_replicate, hi]
  · rw [inM_tlen] at hi
    obtain ⟨d, hd⟩ : ∃ d, h.calls[i]? = some d := ⟨_, List.getElem?_eq_getElem hi⟩
    have ht := inM_tw (r := r) (c := c) hd
    have hp := inM_place (c := c) hr (x := (i : Int)) (by omega) (d := d) (by simpa using hd)
    unfold twinOkI
    rw [ht, hp]
    unfold atM
    by_cases hn : (i : Int) = h.now
    · rw [if_pos hn, if_pos hn]
      have hd' : h.calls[h.now.toNat]? = some d := by rw [← hn]; simpa using hd
      have := (inM_fr0 (c := c) (by omega) hr hd').1
      simp [emptyC, zeroC, frameAt, this, callFrame, hn]
    · rw [if_neg hn, if_neg hn]
      have := w.form d (List.mem_of_getElem? hd)
      simp [twinC, inM_tlen, this]
theorem inM_ok (w : WF p h l) (hr : roomsOkI r c = true) : machOkI p (inM h r c) = true := by
  have hok : heapOkI p h = true := by rw [heapOk_eq]; exact ok_of w
  simp only [heapOkI, Bool.and_eq_true, decide_eq_true_eq] at hok
  obtain ⟨h1, h2, h3, h4, h5, _⟩ := hok
  have hr' := hr
  simp only [roomsOkI, Bool.and_eq_true, inR_iff] at hr'
  have hn := inR_iff.1 h2
  unfold machOkI
  rw [h1, inM_plen, inM_cells, show ((r.toNat : Nat) : Int) = r by omega, hr, inM_ordered hr'.1 (by omega), inM_tlen, inM_born, inM_shaped w hr'.1.1 hr'.2.1, inM_chained w hr'.1.1]
  have ht : toldM p (inM h r c) = true := by
    unfold toldM
    unfold toldOk at h3
    rw [inM_born, inM_said, inM_code, inM_now]
    by_cases h0 : 0 ≤ h.now
    · rw [if_pos h0]
      have e1 : ¬ h.now = -1 := by omega
      simpa [e1] using h3
    · rw [if_neg h0]
      have e1 : h.now = -1 := by omega
      simpa [e1] using h3
  rw [ht]
  simpa using h4
end
end Go.Ai
set_option linter.unusedSimpArgs false
set_option linter.unusedVariables false
namespace Go.Ai
attribute [local simp] cnd_ite gS_ite callBy_whole
section
variable {mt : Nat → Nat → Option Nat}
def DrawH (k : Nat) (x : R) : Prop := ∃ p h, progOk p = true ∧ SmallH h ∧ Gv k (.tuple [aProg p, aHeap h]) x
theorem draw_20 (b : List Nat) (hl : b.length ≤ 9223372036854775807) (hb : ∀ x ∈ b, x < 256) (k : Nat) : DrawH k (run AP mt 20 [lB b] ⟨k, noObj⟩) := by
  have q45 := open_45 (mt := mt) b hl k
  have hc : Cd (b.take 2000) := ⟨fun x hx => hb x (List.mem_of_mem_take hx), by simp; omega⟩
  rw [run_evS AP_20 _ _ rfl]
  simp [c_20, q45]
  have D : DS (k + 1) k (b.take 2000) (updO noObj k (some [[lB (b.take 2000), vi 0]])) 0 (k + 1) (updO noObj k (some [[lB (b.take 2000), vi 0]])) := ⟨Nat.le_refl _, by omega, ⟨0, by omega, by omega, by unfold Rdr; simp [updO]⟩, fun _ _ _ => rfl⟩
  refine bindR (P := fun y => DrawH k y) (heap_44 (mt := mt) D hc (by omega)) ?_
  rintro v G ⟨p, h, cv, sv, n', g', rfl, rfl, D1, hp, hs, fc, fs, k1, k2⟩
  have hk1 := D1.kn
  have hm : ∀ id es, updO g' k none id = some es → g' id = some es := by
    intro id es he
    simp only [updO] at he
    split at he
    · cases he
    · exact he
  simp [k1.k, k1.g, k1.p, k1.c, k2.k, k2.g, k2.p, k2.c]
  exact ⟨p, h, hp, hs, Gv.some (by omega) (frz_pair (frz_more hm 6 _ _ fc) (frz_more hm 6 _ _ fs) [] rfl)⟩
theorem i_22 (p : GProg) (m : GMach) (hP : ShP p) (hM : ShM m) (hok : machOkI p m = true) (hc : m.code = 0) (ht : (topI m).2 = true) {c : GCall} (hca : callAtI m (topI m).1 = c) {mm : GMethod} (hm0 : 0 ≤ c.method ∧ c.method < p.length) (hm : p[c.method.toNat]? = some mm) (hpc : 0 ≤ c.pc) (hml : mm.ops.length ≤ 2097152) :
    Q mt 22 [aProg p, aMach m] (match mm.ops[c.pc.toNat]? with | some o => aRes o true | none => aRes o0 false) := by
  have q51 := m_51 (mt := mt) p m hP hM
  rw [hok] at q51
  have q52 := m_52 (mt := mt) m hM
  have q53 := m_53 (mt := mt) m hM (topI m).1 (top_ok ht)
  rw [hca] at q53
  rw [ht] at q52
  have q36 := m_36 (mt := mt) p c.method c.pc mm hm0 hm hpc hml
  unfold Q at q51 q52 q53 q36
  have hc' : (m.code = 0) = True := eq_true hc
  refine Q.of rfl (fun k => ?_)
  rw [run_evS AP_22 _ _ rfl]
  cases ho : mm.ops[c.pc.toNat]? with
  | none =>
    rw [ho] at q36
    simp [c_22, q51, hc', q52, q53, q36]
    exact Gv.some (by repeat (first | exact Nat.le_refl _ | apply le_nxt)) rfl
  | some o =>
    rw [ho] at q36
    simp [c_22, q51, hc', q52, q53, q36]
    exact Gv.some (by repeat (first | exact Nat.le_refl _ | apply le_nxt)) rfl
end
theorem inM_sh {p : GProg} {h : GHeap} {l : List Int} {r c : Int} (w : WF p h l) (hs : SmallH h) (hr : 1 ≤ r ∧ r ≤ 4) : ShM (inM h r c) := by
  have hcl := hs.c
  have hl := hs.l
  have hsd := hs.s
  have hpl : (inM h r c).pages.length = r.toNat := inM_plen
  refine ⟨by rw [inM_plen]; omega, fun g hg => ?_, by rw [inM_order]; simp [ords]; omega, by rw [inM_tlen]; omega, fun t ht => ?_, by rw [inM_said]; omega⟩
  · by_cases h0 : 0 ≤ h.now
    · obtain ⟨d, m, l2, e, hd, _⟩ := w.head h0
      rw [inM_pg0 h0 hr.1 hd] at hg
      rcases List.mem_cons.1 hg with rfl | hg
      · refine ⟨by simp, fun f hf => ?_⟩
        simp only [List.mem_singleton] at hf
        subst hf
        have := hcl d (List.mem_of_getElem? hd)
        exact ⟨by simp only [callFrame]; omega, by simp only [callFrame]; omega⟩
      · have := List.eq_of_mem_replicate hg
        subst this
        simp
    · rw [inM_pgn h0] at hg
      have := List.eq_of_mem_replicate hg
      subst this
      simp
  · obtain ⟨i, hi⟩ := List.getElem?_of_mem ht
    have hil := (List.getElem?_eq_some_iff.1 hi).1
    rw [inM_tlen] at hil
    obtain ⟨d, hd⟩ : ∃ d, h.calls[i]? = some d := ⟨_, List.getElem?_eq_getElem hil⟩
    rw [inM_tw hd] at hi
    injection hi with hi
    subst hi
    have := hcl d (List.mem_of_getElem? hd)
    split
    · simp [zeroC]
    · simp only [twinC]; omega
end Go.Ai
set_option linter.unusedSimpArgs false
set_option linter.unusedVariables false
namespace Go.Ai
attribute [local simp] cnd_ite gS_ite callBy_whole
section
variable {mt : Nat → Nat → Option Nat}
theorem nextR_is (p : GProg) (h : GHeap) : ∃ o b, nextR p h = aRes o b := by
  unfold nextR
  split
  · split
    · split
      · split
        · exact ⟨_, _, rfl⟩
        · exact ⟨_, _, rfl⟩
      · exact ⟨_, _, rfl⟩
    · exact ⟨_, _, rfl⟩
  · exact ⟨_, _, rfl⟩
theorem WF.neg {p : GProg} {h : GHeap} {l : List Int} (w : WF p h l) (hn : h.now < 0) : l = [] := by
  cases w.up with
  | nil hx => rfl
  | cons h0 hx => omega
theorem law_2 (b : List Nat) (hb : b.length ≤ 9223372036854775807 ∧ ∀ x ∈ b, x < 256) (k : Nat) : Gv k (.bool true) (run AP mt 2 [lB b] ⟨k, noObj⟩) := by
  rw [run_evS AP_2 _ _ rfl]
  by_cases hlen : (1048576 : Int) < b.length
  · simp [c_2, hlen]
    exact Gv.bool (Nat.le_refl _) rfl
  obtain ⟨p, h, hp, hs, hd⟩ := draw_20 (mt := mt) b hb.1 hb.2 k
  have qd := q_at (AP' := AP) (mt := mt) (f := 20) (as := [lB b]) rfl hd noObj
  obtain ⟨_, _, _, _, _, _, hP⟩ := prog_cons hp
  have hH := hs.sh
  have q6 := r_6 (mt := mt) p h hP hH
  have q9 := m_9 (mt := mt) p h hP hH
  by_cases hn : ∃ o, nextR p h = aRes o true
  rotate_left
  · obtain ⟨o, bb, e⟩ := nextR_is p h
    have hbb : bb = false := by cases bb with | false => rfl | true => exact absurd ⟨o, e⟩ hn
    subst hbb
    rw [e] at q6 q9
    unfold Q at q6 q9
    simp [c_2, hlen, qd, q6, q9]
    exact Gv.bool (by repeat (first | exact Nat.le_refl _ | apply le_nxt)) rfl
  obtain ⟨o, e⟩ := hn
  rw [e] at q6 q9
  unfold Q at q6 q9
  unfold nextR at e
  by_cases hok : heapOkS p h = true ∧ h.code = 0
  rotate_left
  · rw [if_neg hok] at e; simp [aRes] at e
  rw [if_pos hok] at e
  obtain ⟨c, m, R⟩ := runs_of hok.1 hok.2
  rw [R.hc] at e
  simp only [R.hm] at e
  cases ho : m.ops[c.pc.toNat]? with
  | none => rw [ho] at e; simp [aRes] at e
  | some o2 =>
  rw [ho] at e
  obtain ⟨o2k, o2a⟩ := o2
  obtain ⟨ok, oa⟩ := o
  simp [aRes] at e
  obtain ⟨rfl, rfl⟩ := e
  have w := wf_of hok.1
  have hr : roomsOkI 2 30 = true := by decide
  have hM := inM_sh (c := 30) w hs (show (1 : Int) ≤ 2 ∧ (2 : Int) ≤ 4 by decide)
  have q21 := q_of (AP := AP) (mt := mt) (f := 21) (as := [aProg p, aHeap h, vi 2, vi 30]) rfl (fun k => i_21 p h 2 30 hP hH hok.1 hr k)
  have htop := inM_top (r := 2) (c := 30) (by decide) R.h1
  have hca : callAtI (inM h 2 30) (topI (inM h 2 30)).1 = onPage h h.now c := by
    rw [htop]
    have := inM_call (r := 2) (c := 30) (by decide) R.h0 R.hc
    rwa [show atM h h.now = (0, 0) by simp [atM]] at this
  have hon : (onPage h h.now c).method = c.method ∧ (onPage h h.now c).pc = c.pc := by simp [onPage]
  have hmem := List.mem_of_getElem? R.hm
  have q22 := i_22 (mt := mt) p (inM h 2 30) hP hM (inM_ok w hr) (by rw [inM_code]; exact hok.2) (by rw [htop]; simpa using R.h0) hca (mm := m) (by rw [hon.1]; exact ⟨R.m0, R.m1⟩) (by rw [hon.1]; exact R.hm) (by rw [hon.2]; exact R.pc0) (hP.m m hmem)
  rw [hon.2, ho] at q22
  unfold Q at q22
  have hix := fun g => idx_ok (g := g) (k := .i64) (w_Call h.calls) R.h0 (by simpa using R.h1)
  have hixm := fun g => idx_ok (g := g) (k := .i64) (w_Method p) R.m0 (by simpa using R.m1)
  have hol := (List.getElem?_eq_some_iff.1 ho).1
  have hixo := fun g => idx_ok (g := g) (k := .i64) (w_Op m.ops) R.pc0 (by simp; have := R.pc0; omega)
  simp [c_2, hlen, qd, q6, q9, hix, R.hc, q21, q22, hixm, R.hm, hixo, ho]
  exact Gv.bool (by repeat (first | exact Nat.le_refl _ | apply le_nxt)) rfl
end
end Go.Ai
