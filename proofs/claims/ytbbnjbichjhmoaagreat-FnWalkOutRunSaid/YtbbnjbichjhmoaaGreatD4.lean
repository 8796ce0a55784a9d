/- The specification's runs of a heap. The chain of a heap at work; the specification's HeapOut and HeapOver. The program's copies of lists, calls and heaps, and its new calls. The program's heap at work: its methods, one by one. The program's heap at work: a call begins; what an operation takes. -/
import Derived.Test.YtbbnjbichjhmoaaGreatD3
import Derived.Test.YtbbnjbichjhmoaaGreatB10
set_option linter.unusedSimpArgs false
set_option linter.unusedVariables false
namespace Go.Ai
variable {mt : Nat → Nat → Option Nat}
attribute [local simp] cnd_ite gS_ite callBy_whole
/-- A new struct for it. -/
theorem HW.new {k m : Nat} {Z : Heap'} {h : GHeap} {cv sv : AVal} {g : Heap'} (hle : k ≤ m) (hz : ∀ id, id < k → g id = Z id) {A B : List Nat} (F : ∃ ow, Own g ow A (lCall h.calls) cv ∧ Own g ow B (lVal h.said) sv ∧ ∀ id s, ow id = some s → k ≤ id ∧ id < m ∧ (A <+: s ∨ B <+: s)) (dj : ∀ s, A <+: s → ¬ B <+: s) (pre : List AVal) (hni : pre = [] → noImmO g) :
    ∃ ow, HW k Z A B pre m h (m + 1) (updO g m (some [pre ++ [cv, vi h.now, vi h.born, sv, vi h.code]])) ow cv sv := by
  obtain ⟨ow, a1, a2, a3⟩ := F
  have K : ∀ P, Keep g ow (updO g m (some [pre ++ [cv, vi h.now, vi h.born, sv, vi h.code]])) ow P := fun P => Keep.refl.upd (fun q hq => by have := (a3 m q hq).2.1; omega)
  refine ⟨ow, dj, by simp [updO], ?_, ⟨hle, by omega⟩, a1.mono (K _), a2.mono (K _), fun id q hq => ?_, fun id hid => ?_, fun hp => ni_upd (hni hp) (fun e he c hc => ?_)⟩
  · cases ho : ow m with
    | none => rfl
    | some q => have := (a3 m q ho).2.1; omega
  · have := a3 id q hq; exact ⟨this.1, by omega, this.2.2⟩
  · simp only [updO]; rw [if_neg (by omega)]; exact hz id hid
  · subst hp
    simp at he; subst he; simp at hc
    rcases hc with rfl | rfl | rfl | rfl | rfl
    · exact own_ni a1
    · rfl
    · rfl
    · exact own_ni a2
    · rfl
/-- A heap that is answered, owned, as such or with whether it is one. -/
def OutHA (k : Nat) (A B : List Nat) (h : GHeap) (W : AVal → AVal) (x : R) : Prop := ∃ cv sv m g ow, x = some (W (.agg [cv, vi h.now, vi h.born, sv, vi h.code]), ⟨m, g⟩) ∧ k ≤ m ∧ Own g ow A (lCall h.calls) cv ∧ Own g ow B (lVal h.said) sv ∧
  (∀ id q, ow id = some q → k ≤ id ∧ id < m ∧ (A <+: q ∨ B <+: q)) ∧ (∀ id, id < k → g id = none)
theorem OutHA.gv1 {k : Nat} {A B : List Nat} {h : GHeap} {x : R} (o : OutHA k A B h id x) : Gv k (aHeap h) x := by
  obtain ⟨cv, sv, m, g, ow, rfl, h1, h2, h3, _⟩ := o
  exact ⟨_, m, g, rfl, h1, fz_heap h2 h3⟩
theorem HW.out {k n : Nat} {A B : List Nat} {pre : List AVal} {o : Nat} {h : GHeap} {g : Heap'} {ow : Ow} {cv sv : AVal} (W : HW k noObj A B pre o h n g ow cv sv) (F : AVal → AVal) : OutHA k A B h F (some (F (.agg [cv, vi h.now, vi h.born, sv, vi h.code]), ⟨n, g⟩)) :=
  ⟨cv, sv, n, g, ow, rfl, W.kn, W.c, W.s, W.f, W.z⟩
theorem outA_zero (k n : Nat) (hk : k ≤ n) (A B : List Nat) (F : AVal → AVal) : OutHA k A B zeroH F (some (F (.agg [.nils, vi 0, vi 0, .nils, vi 0]), ⟨n, noObj⟩)) :=
  ⟨.nils, .nils, n, noObj, fun _ => none, rfl, hk, .nil _, .nil _, fun id q h => (by cases h), fun _ _ => rfl⟩
theorem call_100 (h : GHeap) (hh : ShH h) (n : Nat) (g : Heap') (hz : g = noObj) : ∃ cv sv n1 g1, callBy (run AP mt) (.alone false false) 100 [aHeap h] ⟨n, g⟩ = some (.agg [cv, vi h.now, vi h.born, sv, vi h.code], ⟨n1, g1⟩) ∧ FlH n n1 h cv sv g1 ∧ Ok1 cv ∧ Ok1 sv := by
  subst hz
  obtain ⟨cv, sv, m, g1, a1, a2⟩ := s_100 (mt := mt) h hh n
  obtain ⟨ow, b1, b2, _⟩ := a2.own [] []
  have he : ovr noObj g1 = g1 := by funext t; simp only [ovr, noObj]; cases g1 t <;> rfl
  refine ⟨cv, sv, m, g1, ?_, a2, ok1_list b1, ok1_list b2⟩
  have hf : frzs noObj [aHeap h] = some [aHeap h] := rfl
  unfold callBy
  simp [hf, a1, a2.le, he]
section
variable {k : Nat} {Z : Heap'} {A B : List Nat} {p : GProg} {o : Nat}
theorem loop_75 (P : R → Prop) (S : List KF) (steps : Nat) (hst : steps ≤ 400) (b : AVal) (hb : kv b = b) : ∀ (j i : Nat) {h : GHeap} {l : List Int} {n : Nat} {g : Heap'} {ow : Ow} {cv sv : AVal}, i + j = steps → HW k Z A B (preS p) o h n g ow cv sv → WF p h l → h.said.length + j ≤ 4294967296 →
    (∀ n' g' ow' cv' sv' fr, HW k Z A B (preS p) o (runS p j h) n' g' ow' cv' sv' → fr 8 = .ptr o 0 0 → fr 6 = b → P (unw AP mt (.exit 0) fr ⟨n', g'⟩ S)) →
    ∀ fr : Fr, fr 2 = vi steps → fr 6 = b → fr 8 = .ptr o 0 0 → fr 9 = vi i → P (evS AP mt (.loop l_75_0) fr ⟨n, g⟩ S) := by
  intro j
  induction j with
  | zero =>
    intro i h l n g ow cv sv hij W w hs hE fr f2 f6 f8 f9
    have hc : ¬ ((i : Int) < steps) := by omega
    rw [S_loop]
    simp [u_75_0, b_75_0, f2, f6, f8, f9, hc, hb]
    exact hE _ _ _ _ _ _ W (by simp) (by simp)
  | succ j ih =>
    intro i h l n g ow cv sv hij W w hs hE fr f2 f6 f8 f9
    have hc : (i : Int) < steps := by omega
    have hwr : IntKind.i64.wrap ((i : Int) + 1) = (i : Int) + 1 := wrap_id (by omega) (by omega)
    rw [S_loop]
    by_cases h0 : h.code = 0
    · have hnow := w.run0 h0
      obtain ⟨n1, g1, ow1, cv1, sv1, e1, W1⟩ := s_101 (mt := mt) W w hnow (by omega)
      obtain ⟨l1, w1⟩ := step_wf w hnow
      have hsd := step_said w hnow
      have hr : runS p (j + 1) h = runS p j (stepS p h) := by rw [runS, if_pos h0]
      rw [hr] at hE
      simp [u_75_0, b_75_0, f2, f6, f8, f9, hc, hb, W.Ho, h0, e1, hwr]
      exact ih (i + 1) (by omega) W1 w1 (by omega) hE _ (by simp) (by simp [hb]) (by simp) (by simp)
    · have hr : runS p (j + 1) h = h := by rw [runS, if_neg h0]
      rw [hr] at hE
      simp [u_75_0, b_75_0, f2, f6, f8, f9, hc, hb, W.Ho, h0]
      exact hE _ _ _ _ _ _ W (by simp) (by simp)
theorem s_75 (p : GProg) (h : GHeap) (steps : Int) (hp : ShP p) (hh : ShH h) (dj : ∀ s, A <+: s → ¬ B <+: s) (k : Nat) : OutHA k A B (runR p h steps).1 (fun v => .tuple [v, .bool (runR p h steps).2]) (run AP mt 75 [aProg p, aHeap h, vi steps] ⟨k, noObj⟩) := by
  have q := r_25 (mt := mt) p h hp hh
  have q2 := fun a b c => r_55 (mt := mt) a b c
  unfold Q at q q2
  rw [run_evS AP_75 _ _ rfl]
  unfold runR
  by_cases h1 : heapOkS p h = true
  · by_cases h2 : inR steps 0 400 = true
    · rw [if_pos ⟨h1, h2⟩]
      have hs := inR_iff.1 h2
      have w := wf_of h1
      generalize hN : nxt AP mt 55 [vi steps, vi 0, vi 400] (nxt AP mt 25 [aProg p, aHeap h] k) = N
      have hkN : k ≤ N := by rw [← hN]; repeat (first | exact Nat.le_refl _ | apply le_nxt)
      obtain ⟨cv, sv, n1, g1, a1, F, k1, k2⟩ := call_100 (mt := mt) h hh N noObj rfl
      have F' : FlH k n1 h cv sv g1 := ⟨by have := F.le; omega, fun id hid => F.z id (by omega), fun A B => by obtain ⟨ow, b1, b2, b3⟩ := F.own A B; exact ⟨ow, b1, b2, fun id s hs => by have := b3 id s hs; exact ⟨by omega, this.2⟩⟩⟩
      obtain ⟨ow, W⟩ := HW.new (Z := noObj) F'.le F'.z (F'.own A B) dj (preS p) (by intro e; cases e)
      have hhs := hh.s
      simp only [List.cons_append, List.nil_append] at W
      simp [c_75, q, q2, h1, h2, hN, a1, k1.k, k1.g, k1.p, k1.c, k2.k, k2.g, k2.p, k2.c]
      refine loop_75 (mt := mt) (P := OutHA k A B (runS p steps.toNat h) fun v => .tuple [v, .bool true]) _ steps.toNat (by omega) (.pbox [.nils, vi 0, vi 0, .nils, vi 0]) rfl steps.toNat 0 (by omega) W w (by omega) (fun n2 g2 ow2 cv2 sv2 fr W2 f8 f6 => ?_) _ (by simp; omega) (by simp) (by simp) (by simp)
      simp [f8, f6, W2.Ho, (ok1_list W2.c).k, (ok1_list W2.c).g, (ok1_list W2.c).p, (ok1_list W2.s).k, (ok1_list W2.s).g, (ok1_list W2.s).p]
      exact W2.out fun v => .tuple [v, .bool true]
    · rw [if_neg (fun hc => h2 hc.2)]
      simp [c_75, q, q2, h1, h2]
      exact outA_zero k _ (by repeat (first | exact Nat.le_refl _ | apply le_nxt)) A B (fun v => .tuple [v, .bool false])
  · rw [if_neg (fun hc => h1 hc.1)]
    simp [c_75, q, q2, h1]
    exact outA_zero k _ (by repeat (first | exact Nat.le_refl _ | apply le_nxt)) A B (fun v => .tuple [v, .bool false])
end
end Go.Ai
set_option linter.unusedSimpArgs false
set_option linter.unusedVariables false
namespace Go.Ai
variable {mt : Nat → Nat → Option Nat}
attribute [local simp] cnd_ite gS_ite callBy_whole
theorem aj_40 (h : GHeap) (hl : h.calls.length ≤ 2097152) (k : Nat) (S : List KF) (P : List Int → R → Prop) (hR : ∀ fr m g out v, k ≤ m → RepI k m out v g → fr 2 = .nils → P [] (unw AP mt .ret fr ⟨m, g⟩ S))
    (hE : ∀ fr m g out, k ≤ m → RepI k m out (fr 3) g → P out (unw AP mt (.exit 0) fr ⟨m, g⟩ S)) :
    ∀ (f : Nat) (at' : Int) (out : List Int) (v : AVal) (g : Heap') (n : Nat), f + out.length = h.calls.length → k ≤ n → RepI k n out v g →
      P (chainF h.calls f at' out) (evS AP mt (.loop l_40_0) (upd (upd (upd fr0 4 (vi at')) 3 v) 1 (.pbox [lCall h.calls, vi h.now, vi h.born, lVal h.said, vi h.code])) ⟨n, g⟩ S) := by
  have hkv : ∀ {n out v g}, RepI k n out v g → kv v = v ∧ gv v = some v ∧ (∀ d, pv d v = v) ∧ lenV v = some (vi out.length) := by
    intro n out v g hr
    rcases hr with ⟨rfl, rfl, rfl⟩ | ⟨_, id, _, _, rfl, rfl⟩
    · exact ⟨rfl, rfl, fun _ => rfl, rfl⟩
    · exact ⟨rfl, rfl, fun _ => rfl, rfl⟩
  intro f
  induction f with
  | zero =>
    intro at' out v g n hf hn hr
    obtain ⟨k1, k2, k3, k4⟩ := hkv hr
    rw [S_loop]
    by_cases ha : at' < 0
    · have ha' : ¬ 0 ≤ at' := by omega
      simp [-lenV, lenV_list, u_40_0, b_40_0, ha, ha', chainF, k1, k2, k3, k4]
      exact hE _ _ _ _ hn (by simpa using hr)
    · have ha' : 0 ≤ at' := by omega
      have hc : (h.calls.length : Int) ≤ out.length := by omega
      simp [-lenV, lenV_list, u_40_0, b_40_0, ha, ha', chainF, k1, k2, k3, k4, hc]
      exact hR _ _ _ _ _ hn hr (by simp)
  | succ f ih =>
    intro at' out v g n hf hn hr
    obtain ⟨k1, k2, k3, k4⟩ := hkv hr
    rw [S_loop]
    by_cases ha : at' < 0
    · have ha' : ¬ 0 ≤ at' := by omega
      simp [-lenV, lenV_list, u_40_0, b_40_0, ha, ha', chainF, k1, k2, k3, k4]
      exact hE _ _ _ _ hn (by simpa using hr)
    have ha' : 0 ≤ at' := by omega
    have hc : ¬ ((h.calls.length : Int) ≤ out.length) := by omega
    by_cases hb : (h.calls.length : Int) ≤ at'
    · simp [-lenV, lenV_list, u_40_0, b_40_0, ha, ha', chainF, k1, k2, k3, k4, hc, hb]
      exact hR _ _ _ _ _ hn hr (by simp)
    obtain ⟨c, hcc⟩ : ∃ c, h.calls[at'.toNat]? = some c := ⟨_, List.getElem?_eq_getElem (by omega)⟩
    have hix := fun g => idx_ok (g := g) (k := .i64) (w_Call h.calls) (show (0:Int) ≤ at' by omega) (by simp; omega)
    cases hd : c.dead
    · obtain ⟨v', g', h1, h2⟩ := hr.app hn at' (by omega)
      obtain ⟨j1, j2, j3, j4⟩ := hkv h2
      have hi := ih c.sender (out ++ [at']) v' g' (n + 1) (by simp; omega) (by omega) h2
      simp [-lenV, lenV_list, u_40_0, b_40_0, ha, ha', chainF, k1, k2, k3, k4, hc, hb, hix, hcc, hd, h1, j1, j2, j3, j4]
      exact hi
    · simp [-lenV, lenV_list, u_40_0, b_40_0, ha, ha', chainF, k1, k2, k3, k4, hc, hb, hix, hcc, hd]
      exact hR _ _ _ _ _ hn hr (by simp)
/-- Numbers that are answered; what was made is not read only. -/
def OutJ (k : Nat) (l : List Int) (x : R) : Prop := ∃ v m g, x = some (v, ⟨m, g⟩) ∧ k ≤ m ∧ Ok1 v ∧ lenV v = some (vi l.length) ∧ noImm v = true ∧ noImmO g ∧ ∀ id, id < k → g id = none
theorem s_40 (h : GHeap) (hl : h.calls.length ≤ 2097152) (k : Nat) : OutJ k (chain h) (run AP mt 40 [aHeap h] ⟨k, noObj⟩) := by
  rw [run_evS AP_40 _ _ rfl]
  simp [c_40]
  have hz : ∀ {m out v g}, RepI k m out v g → ∀ id, id < k → g id = none := by
    intro m out v g hr id hid
    rcases hr with ⟨rfl, rfl, rfl⟩ | ⟨_, id', h1, _, rfl, rfl⟩
    · rfl
    · simp only [updO]; rw [if_neg (by omega)]; rfl
  refine aj_40 (mt := mt) h hl k _ (fun l x => OutJ k l x) (fun fr m g out v hm hr h2 => ?_) (fun fr m g out hm hr => ?_) h.calls.length h.now [] .nils noObj k (by simp) (Nat.le_refl _) (.inl ⟨rfl, rfl, rfl⟩)
  · simp [h2]; exact ⟨.nils, m, g, rfl, hm, ⟨rfl, rfl, fun _ => rfl, rfl⟩, rfl, rfl, hr.noImmO, hz hr⟩
  · generalize hv : fr 3 = v at hr
    obtain ⟨k1, k2, k3, k4, k5, k6⟩ := hr.vals
    simp [hv, k1, k2, k3]
    exact ⟨v, m, g, rfl, hm, ⟨k1, k2, k3, k5⟩, k4, k6, hr.noImmO, hz hr⟩
theorem call_40 {k n : Nat} {Z : Heap'} {A B : List Nat} {pre : List AVal} {o : Nat} {h : GHeap} {g : Heap'} {ow : Ow} {cv sv : AVal} (W : HW k Z A B pre o h n g ow cv sv) (hl : h.calls.length ≤ 2097152) :
    ∃ v n' g', callBy (run AP mt) (.alone true false) 40 [.agg [cv, vi h.now, vi h.born, sv, vi h.code]] ⟨n, g⟩ = some (v, ⟨n', g'⟩) ∧ n ≤ n' ∧ Ok1 v ∧ lenV v = some (vi (chain h).length) ∧ ∀ id, id < n → g' id = g id := by
  obtain ⟨v, m, g1, a1, a2, a3, a4, a5, a6, a7⟩ := s_40 (mt := mt) h hl n
  refine ⟨v, m, ovr g g1, ?_, a2, a3, a4, fun id hid => ovr_none (a7 id hid)⟩
  have hf : frzs g [.agg [cv, vi h.now, vi h.born, sv, vi h.code]] = some [aHeap h] := by
    have := fz_heap W.c W.s
    simp only [frzs, omap, this]; rfl
  unfold callBy
  simp [hf, a1, a2, a5, a6]
section
variable {k : Nat} {Z : Heap'} {A B : List Nat} {p : GProg} {o : Nat}
theorem loop_186 (P : R → Prop) (S : List KF) (deep : Int) (most : Nat) (hst : most ≤ 400) (b : AVal) (hb : kv b = b) : ∀ (j i : Nat) {h : GHeap} {l : List Int} {n : Nat} {g : Heap'} {ow : Ow} {cv sv : AVal}, i + j = most → HW k Z A B (preS p) o h n g ow cv sv → WF p h l → h.said.length + j ≤ 4294967296 →
    (∀ n' g' ow' cv' sv' fr, HW k Z A B (preS p) o (whileS p (fun x => decide (deep < deepS x)) j h) n' g' ow' cv' sv' → fr 9 = .ptr o 0 0 → fr 8 = b → P (unw AP mt (.exit 0) fr ⟨n', g'⟩ S)) →
    ∀ fr : Fr, fr 2 = vi deep → fr 3 = vi most → fr 8 = b → fr 9 = .ptr o 0 0 → fr 10 = vi i → P (evS AP mt (.loop l_186_0) fr ⟨n, g⟩ S) := by
  intro j
  induction j with
  | zero =>
    intro i h l n g ow cv sv hij W w hs hE fr f2 f3 f8 f9 f10
    have hc : ¬ ((i : Int) < most) := by omega
    rw [S_loop]
    simp [u_186_0, b_186_0, f2, f3, f8, f9, f10, hc, hb]
    exact hE _ _ _ _ _ _ W (by simp) (by simp)
  | succ j ih =>
    intro i h l n g ow cv sv hij W w hs hE fr f2 f3 f8 f9 f10
    have hc : (i : Int) < most := by omega
    have hwr : IntKind.i64.wrap ((i : Int) + 1) = (i : Int) + 1 := wrap_id (by omega) (by omega)
    rw [S_loop]
    by_cases h0 : h.code = 0
    · have hnow := w.run0 h0
      have hbl := w.born
      have hll := w.len
      obtain ⟨v, n1, g1, a1, a2, a3, a4, a5⟩ := call_40 (mt := mt) W (by omega)
      have W0 := W.keep (n' := n1) (g' := g1) a2 a5
      have ha1 := a1
      by_cases hd : deep < (chain h).length
      · obtain ⟨n2, g2, ow2, cv2, sv2, e1, W1⟩ := s_101 (mt := mt) W0 w hnow (by omega)
        obtain ⟨l1, w1⟩ := step_wf w hnow
        have hsd := step_said w hnow
        have hr : whileS p (fun x => decide (deep < deepS x)) (j + 1) h = whileS p (fun x => decide (deep < deepS x)) j (stepS p h) := by rw [whileS, if_pos ⟨h0, decide_eq_true hd⟩]
        rw [hr] at hE
        rw [h0] at ha1
        simp [-lenV, u_186_0, b_186_0, f2, f3, f8, f9, f10, hc, hb, W.Ho, h0, ha1, a3.k, a3.g, a3.p, a4, hd, e1, hwr]
        exact ih (i + 1) (by omega) W1 w1 (by omega) hE _ (by simp) (by simp) (by simp [hb]) (by simp) (by simp)
      · have hr : whileS p (fun x => decide (deep < deepS x)) (j + 1) h = h := by rw [whileS, if_neg (fun hx => hd (of_decide_eq_true hx.2))]
        rw [hr] at hE
        rw [h0] at ha1
        simp [-lenV, u_186_0, b_186_0, f2, f3, f8, f9, f10, hc, hb, W.Ho, h0, ha1, a3.k, a3.g, a3.p, a4, hd]
        exact hE _ _ _ _ _ _ W0 (by simp) (by simp)
    · have hr : whileS p (fun x => decide (deep < deepS x)) (j + 1) h = h := by rw [whileS, if_neg (fun hx => h0 hx.1)]
      rw [hr] at hE
      simp [u_186_0, b_186_0, f2, f3, f8, f9, f10, hc, hb, W.Ho, h0]
      exact hE _ _ _ _ _ _ W (by simp) (by simp)
theorem s_186 (p : GProg) (h : GHeap) (deep most : Int) (hh : ShH h) {l : List Int} (w : WF p h l) (hm : 0 ≤ most ∧ most ≤ 400) (dj : ∀ s, A <+: s → ¬ B <+: s) (k : Nat) : OutHA k A B (whileS p (fun x => decide (deep < deepS x)) most.toNat h) id (run AP mt 186 [aProg p, aHeap h, vi deep, vi most] ⟨k, noObj⟩) := by
  rw [run_evS AP_186 _ _ rfl]
  obtain ⟨cv, sv, n1, g1, a1, F, k1, k2⟩ := call_100 (mt := mt) h hh k noObj rfl
  obtain ⟨ow, W⟩ := HW.new (Z := noObj) F.le F.z (F.own A B) dj (preS p) (by intro e; cases e)
  have hhs := hh.s
  simp only [List.cons_append, List.nil_append] at W
  simp [c_186, a1, k1.k, k1.g, k1.p, k1.c, k2.k, k2.g, k2.p, k2.c]
  refine loop_186 (mt := mt) (P := OutHA k A B (whileS p (fun x => decide (deep < deepS x)) most.toNat h) id) _ deep most.toNat (by omega) (.pbox [.nils, vi 0, vi 0, .nils, vi 0]) rfl most.toNat 0 (by omega) W w (by omega) (fun n2 g2 ow2 cv2 sv2 fr W2 f9 f8 => ?_) _ (by simp) (by simp; omega) (by simp) (by simp) (by simp)
  simp [f8, f9, W2.Ho, (ok1_list W2.c).k, (ok1_list W2.c).g, (ok1_list W2.c).p, (ok1_list W2.s).k, (ok1_list W2.s).g, (ok1_list W2.s).p]
  exact W2.out id
end
theorem djx : ∀ s : List Nat, [0] <+: s → ¬ [1] <+: s := fun s h1 h2 => by have := pre_head h1 h2; omega
theorem q_186 (p : GProg) (h : GHeap) (deep most : Int) (hh : ShH h) {l : List Int} (w : WF p h l) (hm : 0 ≤ most ∧ most ≤ 400) : Q mt 186 [aProg p, aHeap h, vi deep, vi most] (aHeap (whileS p (fun x => decide (deep < deepS x)) most.toNat h)) :=
  Q.of rfl (fun k => (s_186 (mt := mt) p h deep most hh w hm djx k).gv1)
theorem s_172 (p : GProg) (h : GHeap) (most : Int) (hp : ShP p) (hh : ShH h) : Q mt 172 [aProg p, aHeap h, vi most] (.tuple [aHeap (outR p h most).1, .bool (outR p h most).2]) := by
  have q := r_25 (mt := mt) p h hp hh
  have q2 := fun a b c => r_55 (mt := mt) a b c
  have q4 := r_40 (mt := mt) h hh.l
  unfold Q at q q2 q4
  refine Q.of rfl (fun k => ?_)
  rw [run_evS AP_172 _ _ rfl]
  unfold outR
  by_cases h1 : heapOkS p h = true
  · by_cases h2 : inR most 0 400 = true
    · rw [if_pos ⟨h1, h2⟩]
      have hs := inR_iff.1 h2
      have w := wf_of h1
      have hcl := chain_len h
      have hhl := hh.l
      have q5 := q_186 (mt := mt) p h (deepS h - 1) most hh w hs
      unfold Q deepS at q5
      have hwr : IntKind.i64.wrap (((chain h).length : Int) - 1) = (chain h).length - 1 := wrap_id (by omega) (by omega)
      simp [c_172, q, q2, h1, h2, q4, hwr, q5]
      exact Gv.some (by repeat (first | exact Nat.le_refl _ | apply le_nxt)) rfl
    · rw [if_neg (fun hc => h2 hc.2)]
      simp [c_172, q, q2, h1, h2]
      exact Gv.some (by repeat (first | exact Nat.le_refl _ | apply le_nxt)) rfl
  · rw [if_neg (fun hc => h1 hc.1)]
    simp [c_172, q, q2, h1]
    exact Gv.some (by repeat (first | exact Nat.le_refl _ | apply le_nxt)) rfl
end Go.Ai
set_option linter.unusedSimpArgs false
set_option linter.unusedVariables false
namespace Go.Ai
variable {mt : Nat → Nat → Option Nat}
attribute [local simp] cnd_ite gS_ite callBy_whole
open Classical in
noncomputable def cpyV (z : Nat) (x y : AVal) (G : AG) : Option (AVal × AG) :=
  (srcOf G.obj y).bind fun ns =>
    if (∀ e ∈ ns, e.length = z) then
      match x with
      | .nils => some (.int .i64 0, G)
      | .slice id 0 len => (G.obj id).bind fun es =>
        if len ≤ es.length ∧ es ≠ [] ∧ (∀ e ∈ es, e.length = z) then
          some (.int .i64 (min ns.length len : Nat), ⟨G.next, updO G.obj id (some (ns.take (min ns.length len) ++ es.drop (min ns.length len)))⟩)
        else none
      | _ => none
    else none
theorem S_cpy {fr : Fr} {G : AG} {S : List KF} {ks : List Nat} {is : List AI} {j : Nat} {d : Option Nat} {z : Nat} {x y : Opd} : isS AP mt (⟨j, d, none, .cpy z x y⟩ :: is) fr G ks S = retS AP mt (cpyV z (x.ev fr) (y.ev fr) G) d is fr ks S := by
  refine S_ret' ?_
  show (evOp (run AP mt) mt fr G (.cpy z x y)).bind _ = _
  congr 1
theorem i_48 (l : List GVal) (hl : l.length ≤ 2097152) (k : Nat) : ∃ v m g, run AP mt 48 [lVal l] ⟨k, noObj⟩ = some (v, ⟨m, g⟩) ∧ New k noObj m g l v := by
  rw [run_evS AP_48 _ _ rfl]
  by_cases h : l = []
  · subst h
    simp [c_48, isnilV]
    rw [cndS_any (r := (.ret, upd fr0 2 .nils, ⟨k, noObj⟩))]
    · simp
      exact ⟨.nils, k, noObj, ⟨rfl, rfl, rfl⟩, .inl ⟨rfl, rfl, rfl, rfl⟩⟩
    · simp [ev_seq, ev_reg, ev_ret, evIs, evI, evD, evOp, put]
    · simp [ev_seq, ev_reg, ev_ret, ev_skip, evIs, evI, evD, evOp, put, appV, srcOf]
  · obtain ⟨n1, g1, v1, a1, a2⟩ := app_new (g := noObj) (n := k) (y := lVal l) (l := l) rfl (by omega)
    have F := a2.fl (Nat.le_refl _) (fun _ _ => rfl)
    have hk := F.ok
    simp [c_48, isnilV, h, a1, hk.k, hk.g, hk.p]
    exact ⟨v1, n1, g1, ⟨rfl, rfl, rfl⟩, a2⟩
theorem New.ni {n n' : Nat} {g g1 : Heap'} {l : List GVal} {v : AVal} (h : New n g n' g1 l v) : noImm v = true := by
  rcases h with ⟨_, rfl, _, _⟩ | ⟨_, rfl, _, _⟩ <;> rfl
/-- A list copied, whatever it lies in. -/
theorem call_48 {a : AVal} {l : List GVal} (hl : l.length ≤ 2097152) {n : Nat} {g : Heap'} (ha : frz 8 g a = some (lVal l)) : ∃ v m g', callBy (run AP mt) (.alone true false) 48 [a] ⟨n, g⟩ = some (v, ⟨m, g'⟩) ∧ New n g m g' l v := by
  obtain ⟨v, m, g1, a1, a2⟩ := i_48 (mt := mt) l hl n
  have hf : frzs g [a] = some [lVal l] := by simp [frzs, omap, ha]
  have h1 := (a2.own (fun _ => none) []).1
  have h2 := (a2.own (fun _ => none) []).2.2.2.2 (by intro id es h; cases h)
  refine ⟨v, m, ovr g g1, ?_, ?_⟩
  · unfold callBy
    simp [hf, a1, h1, a2.ni, h2]
  · rcases a2 with ⟨rfl, rfl, rfl, rfl⟩ | ⟨hne, rfl, rfl, rfl⟩
    · exact .inl ⟨rfl, rfl, rfl, by funext t; rfl⟩
    · refine .inr ⟨hne, rfl, rfl, ?_⟩
      funext t
      simp only [ovr, updO, noObj]
      split <;> rfl
theorem i_49 (c : GCall) (hl : c.temps.length ≤ 2097152 ∧ c.stack.length ≤ 2097152) (k : Nat) : OutC k c (run AP mt 49 [aCall c] ⟨k, noObj⟩) := by
  obtain ⟨v1, n1, g1, a1, a2⟩ := call_48 (mt := mt) (a := lVal c.temps) hl.1 (n := k) (g := noObj) rfl
  have F1 := a2.fl (Nat.le_refl _) (fun _ _ => rfl)
  obtain ⟨v2, n2, g2, b1, b2⟩ := call_48 (mt := mt) (a := lVal c.stack) hl.2 (n := n1) (g := g1) rfl
  have hb := b2.own (fun _ => none) []
  have F2 : FlV n1 n2 c.stack v2 (fun id => if id < n1 then none else g2 id) := by
    rcases b2 with ⟨e1, rfl, rfl, rfl⟩ | ⟨hne, rfl, rfl, rfl⟩
    · exact ⟨.inl ⟨e1, rfl⟩, Nat.le_refl _, fun id hid => by simp [hid]⟩
    · exact ⟨.inr ⟨hne, n1, Nat.le_refl _, by omega, rfl, by simp [updO]⟩, by omega, fun id hid => by simp [hid]⟩
  have k1 := F1.ok
  have k2 := F2.ok
  have hle := F1.2.1
  rw [run_evS AP_49 _ _ rfl]
  simp [c_49, a1, b1, k1.k, k1.g, k1.p, k1.c, k2.k, k2.g, k2.p, k2.c]
  refine ⟨v1, v2, n2, g2, rfl, by omega, fun id hid => ?_, fun p => fl_two F1 F2 (fun id hid => hb.2.2.2.1 id (by omega)) p 2 3 (by decide)⟩
  rw [hb.2.2.2.1 id (by omega)]; exact F1.2.2 id hid
theorem New.ovr {n n' : Nat} {g g1 : Heap'} {l : List GVal} {v : AVal} (h : New n noObj n' g1 l v) : New n g n' (ovr g g1) l v := by
  rcases h with ⟨rfl, rfl, rfl, rfl⟩ | ⟨hne, rfl, rfl, rfl⟩
  · exact .inl ⟨rfl, rfl, rfl, by funext t; rfl⟩
  · refine .inr ⟨hne, rfl, rfl, ?_⟩
    funext t
    simp only [Ai.ovr, updO, noObj]
    split <;> rfl
theorem i_251 (p : GProg) (method : Int) (m : GMethod) (args : List GVal) (sender : Int) (h0 : 0 ≤ method ∧ method < p.length) (hm : p[method.toNat]? = some m) (ht : 0 ≤ m.temps ∧ m.temps ≤ 1000) (ha : (args.length : Int) ≤ m.temps) (k : Nat) :
    ∃ v m' g', run AP mt 251 [aProg p, vi method, lVal args, vi sender] ⟨k, noObj⟩ = some (.agg [vi method, vi 0, v, .nils, vi sender, .bool false], ⟨m', g'⟩) ∧ New k noObj m' g' (newC m method args sender).temps v := by
  have hix := fun g => idx_ok (g := g) (k := .i64) (w_Method p) h0.1 (by simpa using h0.2)
  rw [run_evS AP_251 _ _ rfl]
  by_cases hz : m.temps = 0
  · have he : args = [] := List.eq_nil_of_length_eq_zero (by omega)
    subst he
    simp [c_251, hix, hm, hz, mksV_0, S_cpy, cpyV, srcOf]
    exact ⟨_, _, _, ⟨rfl, rfl, rfl⟩, .inl ⟨by simp [newC, hz], rfl, rfl, rfl⟩⟩
  · have hmk := mksV_ok (z := [vi 0, vi 0]) (b := 16) (G := ⟨k, noObj⟩) (m := m.temps) (by omega) (by simp only [maxA]; omega)
    have hmin : min args.length m.temps.toNat = args.length := by omega
    have hcp : cpyV 2 (.slice k 0 m.temps.toNat) (lVal args) ⟨k + 1, updO noObj k (some (List.replicate m.temps.toNat [vi 0, vi 0]))⟩ = some (vi args.length, ⟨k + 1, updO (updO noObj k (some (List.replicate m.temps.toNat [vi 0, vi 0]))) k (some ((newC m method args sender).temps.map eVal))⟩) := by
      have h1 : (List.replicate m.temps.toNat [vi 0, vi 0]) ≠ [] := by intro e; have := congrArg List.length e; simp at this; omega
      have h2 : (args.map eVal).take args.length = args.map eVal := List.take_of_length_le (by simp)
      have h3 : m.temps.toNat - args.length = (m.temps - args.length).toNat := by omega
      simp only [cpyV, srcOf, Option.bind_some, updO, if_true]
      rw [if_pos (w_Val args), if_pos ⟨by simp, h1, by simp⟩]
      simp only [List.length_map, hmin, h2, newC, List.map_append, List.map_replicate, List.drop_replicate, h3]
      rfl
    have hlen : (newC m method args sender).temps.length = m.temps.toNat := by simp [newC]; omega
    have hup : updO (updO noObj k (some (List.replicate m.temps.toNat [vi 0, vi 0]))) k (some ((newC m method args sender).temps.map eVal)) = updO noObj k (some ((newC m method args sender).temps.map eVal)) := by
      funext t; simp only [updO]; split <;> rfl
    rw [hup] at hcp
    simp only [] at hmk
    simp [c_251, hix, hm, hmk, S_cpy, hcp]
    exact ⟨_, _, _, ⟨rfl, rfl, rfl⟩, .inr ⟨by intro e; rw [e] at hlen; simp at hlen; omega, by rw [hlen], rfl, rfl⟩⟩
theorem call_251 (p : GProg) (method : Int) (m : GMethod) (args : List GVal) (sender : Int) (h0 : 0 ≤ method ∧ method < p.length) (hm : p[method.toNat]? = some m) (ht : 0 ≤ m.temps ∧ m.temps ≤ 1000) (ha : (args.length : Int) ≤ m.temps) (n : Nat) (g : Heap') :
    ∃ v m' g', callBy (run AP mt) (.alone false false) 251 [aProg p, vi method, lVal args, vi sender] ⟨n, g⟩ = some (.agg [vi method, vi 0, v, .nils, vi sender, .bool false], ⟨m', g'⟩) ∧ New n g m' g' (newC m method args sender).temps v := by
  obtain ⟨v, m', g', a1, a2⟩ := i_251 (mt := mt) p method m args sender h0 hm ht ha n
  refine ⟨v, m', ovr g g', ?_, a2.ovr⟩
  have hf : frzs noObj [aProg p, vi method, lVal args, vi sender] = some [aProg p, vi method, lVal args, vi sender] := rfl
  have := (a2.own (fun _ => none) []).1
  unfold callBy
  simp [hf, a1, this]
end Go.Ai
set_option linter.unusedSimpArgs false
set_option linter.unusedVariables false
namespace Go.Ai
attribute [local simp] cnd_ite gS_ite callBy_whole
section
variable {k n : Nat} {Z : Heap'} {A B : List Nat} {o : Nat} {h : GHeap} {g : Heap'} {ow : Ow} {cv sv : AVal}
variable {ci : Nat} {es : Obj'} {j : Nat} {c : GCall} {tv kv : AVal}
/-- An impl.Heap as an engine. -/
abbrev eH (o : Nat) : AVal := .iface 0 (.ptr o 0 0)
theorem i_247 (V : VW k Z A B [] o h n g ow ci es sv j c tv kv) (h0 : 0 ≤ h.now) (hj : h.now.toNat = j) : run AP MT 247 [.ptr o 0 0] ⟨n, g⟩ = some (.tuple [vi c.method, .ptr ci j 1, tv, .ptr ci j 3], ⟨n, g⟩) := by
  have ht := ok1_list V.t
  rw [run_evS AP_247 _ _ rfl]
  simp [c_247, V.W.Ho, V.ix h0 hj, V.Hc, V.He, ht.k, ht.g, ht.p]
theorem i_246 (V : VW k Z A B [] o h n g ow ci es sv j c tv kv) {x : Int} (h0 : 0 ≤ x) (hj : x.toNat = j) : run AP MT 246 [.ptr o 0 0, vi x] ⟨n, g⟩ = some (.tuple [vi c.method, vi c.pc, tv, .bool c.dead], ⟨n, g⟩) := by
  have ht := ok1_list V.t
  rw [run_evS AP_246 _ _ rfl]
  simp [c_246, V.W.Ho, V.ix h0 hj, V.Hc, V.He, ht.k, ht.g, ht.p]
theorem i_243 (W : HW k Z A B [] o h n g ow cv sv) : run AP MT 243 [.ptr o 0 0] ⟨n, g⟩ = some (.bool (decide (h.born = 30)), ⟨n, g⟩) := by
  rw [run_evS AP_243 _ _ rfl]
  simp [c_243, W.Ho]
theorem q_252 {mt : Nat → Nat → Option Nat} (x : Int) : Q mt 252 [vi x] (aVal ⟨2, x⟩) := by
  refine Q.of rfl (fun k => ?_)
  rw [run_evS AP_252 _ _ rfl]
  simp [c_252]
  exact Gv.some (Nat.le_refl _) rfl
theorem q_227 {mt : Nat → Nat → Option Nat} (x : Int) : Q mt 227 [vi x] (aVal (numV x)) := by
  refine Q.of rfl (fun k => ?_)
  rw [run_evS AP_227 _ _ rfl]
  simp [c_227]
  exact Gv.some (Nat.le_refl _) rfl
theorem q_228 {mt : Nat → Nat → Option Nat} (b : Bool) : Q mt 228 [.bool b] (aVal (bitV b)) := by
  have q := fun x => q_227 (mt := mt) x
  unfold Q at q
  refine Q.of rfl (fun k => ?_)
  rw [run_evS AP_228 _ _ rfl]
  cases b
  · simp [c_228, q, bitV]
    exact Gv.some (by repeat (first | exact Nat.le_refl _ | apply le_nxt)) rfl
  · simp [c_228, q, bitV]
    exact Gv.some (by repeat (first | exact Nat.le_refl _ | apply le_nxt)) rfl
theorem i_244 (W : HW k Z A B [] o h n g ow cv sv) : ∃ N, n ≤ N ∧ run AP MT 244 [.ptr o 0 0] ⟨n, g⟩ = some (aVal ⟨2, h.now⟩, ⟨N, g⟩) := by
  have q := fun x => q_252 (mt := MT) x
  unfold Q at q
  rw [run_evS AP_244 _ _ rfl]
  simp [c_244, W.Ho, q]
  exact nxt_le
theorem i_249 (V : VW k Z A B [] o h n g ow ci es sv j c tv kv) {x : Int} (h0 : 0 ≤ x) (hj : x.toNat = j) : ∃ N, n ≤ N ∧ run AP MT 249 [.ptr o 0 0, vi x] ⟨n, g⟩ = some (aVal (if 0 ≤ c.sender then ⟨2, c.sender⟩ else v0), ⟨N, g⟩) := by
  have q := fun x => q_252 (mt := MT) x
  unfold Q at q
  rw [run_evS AP_249 _ _ rfl]
  by_cases hs : 0 ≤ c.sender
  · have hs' : ¬ c.sender < 0 := by omega
    simp [c_249, V.W.Ho, V.ix h0 hj, V.Hc, V.He, hs, hs', q]
    exact nxt_le
  · have hs' : c.sender < 0 := by omega
    simp [c_249, V.W.Ho, V.ix h0 hj, V.Hc, V.He, hs, hs', v0]
theorem i_248 (W : HW k Z A B [] o h n g ow cv sv) (hl : h.said.length ≤ 4294967296) (v : GVal) : To k Z A B [] o { h with said := h.said ++ [v] } (.tuple []) (run AP MT 248 [.ptr o 0 0, aVal v] ⟨n, g⟩) := by
  obtain ⟨g1, a1, a2, g2, ow2, a3, W2⟩ := W.said hl v
  simp only [List.nil_append] at a2 a3
  have hs := ok1_list W.s
  rw [run_evS AP_248 _ _ rfl]
  simp [c_248, W.Ho, a1, a2, stH_root, a3, hs.k, hs.g, hs.p, hs.c]
  exact ⟨_, _, _, _, _, rfl, W2⟩
theorem i_245 (V : VW k Z A B [] o h n g ow ci es sv h.now.toNat c tv kv) (h0 : 0 ≤ h.now) : ∃ ow' es' g', run AP MT 245 [.ptr o 0 0] ⟨n, g⟩ = some (.bool (decide (0 ≤ c.sender)), ⟨n, g'⟩) ∧ VW k Z A B [] o (leaveS h) n g' ow' ci es' sv h.now.toNat (deadC c) tv .nils := by
  obtain ⟨g1, a1, _, V1⟩ := V.root (h' := { h with now := c.sender }) (off := 1) (x := vi c.sender) rfl (by simp) rfl rfl
  obtain ⟨g2, es2, a2, b2, V2⟩ := V1.row { c with dead := true } kv (off := 5) (x := .bool true) rfl (by omega) rfl V1.s
  obtain ⟨g3, es3, a3, b3, V3⟩ := V2.row { c with dead := true, stack := [] } .nils (off := 3) (x := .nils) rfl (by omega) rfl (.nil _)
  obtain ⟨g4, es4, a4, b4, V4⟩ := V3.row (deadC c) .nils (off := 4) (x := vi (-1)) rfl (by omega) rfl (.nil _)
  have hle : setC (setC (setC { h with now := c.sender } h.now.toNat { c with dead := true }) h.now.toNat { c with dead := true, stack := [] }) h.now.toNat (deadC c) = leaveS h := by rw [leave_eq V.hj]; simp [setC]
  rw [hle] at V4
  have o4 := V4.W.Ho
  have hnow : (leaveS h).now = c.sender := leave_now V.hj
  simp at a1
  simp [hnow] at o4
  refine ⟨_, _, g4, ?_, V4⟩
  rw [run_evS AP_245 _ _ rfl]
  simp [c_245, V.W.Ho, V.ix h0 rfl, V.Hc, V.He, stH_root, a1, V1.Hc, V1.He, a2, b2, V2.Hc, V2.He, a3, b3, V3.Hc, V3.He, a4, b4, o4]
theorem inv_0 {v : AVal} {vs : List AVal} {G : AG} : invV AP MT 0 (.iface 0 v) (some vs) G = run AP MT 247 (v :: vs) G := invV_some MT_0_0
theorem inv_1 {v : AVal} {vs : List AVal} {G : AG} : invV AP MT 1 (.iface 0 v) (some vs) G = run AP MT 244 (v :: vs) G := invV_some MT_0_1
theorem inv_2 {v : AVal} {vs : List AVal} {G : AG} : invV AP MT 2 (.iface 0 v) (some vs) G = run AP MT 249 (v :: vs) G := invV_some MT_0_2
theorem inv_3 {v : AVal} {vs : List AVal} {G : AG} : invV AP MT 3 (.iface 0 v) (some vs) G = run AP MT 246 (v :: vs) G := invV_some MT_0_3
theorem inv_4 {v : AVal} {vs : List AVal} {G : AG} : invV AP MT 4 (.iface 0 v) (some vs) G = run AP MT 242 (v :: vs) G := invV_some MT_0_4
theorem inv_5 {v : AVal} {vs : List AVal} {G : AG} : invV AP MT 5 (.iface 0 v) (some vs) G = run AP MT 245 (v :: vs) G := invV_some MT_0_5
theorem inv_6 {v : AVal} {vs : List AVal} {G : AG} : invV AP MT 6 (.iface 0 v) (some vs) G = run AP MT 250 (v :: vs) G := invV_some MT_0_6
theorem inv_7 {v : AVal} {vs : List AVal} {G : AG} : invV AP MT 7 (.iface 0 v) (some vs) G = run AP MT 248 (v :: vs) G := invV_some MT_0_7
theorem inv_8 {v : AVal} {vs : List AVal} {G : AG} : invV AP MT 8 (.iface 0 v) (some vs) G = run AP MT 243 (v :: vs) G := invV_some MT_0_8
attribute [local simp] inv_0 inv_1 inv_2 inv_3 inv_4 inv_5 inv_6 inv_7 inv_8
theorem loop_250 (P : R → Prop) (S : List KF) (to : Int) : ∀ (f : Nat) {p : GProg} {h : GHeap} {l : List Int} {n : Nat} {g : Heap'} {ow : Ow} {cv sv : AVal}, HW k Z A B [] o h n g ow cv sv → WF p h l → to ∈ l → l.length ≤ f + 1 →
    (∀ n' g' ow' cv' sv' fr, HW k Z A B [] o (unwS f h to) n' g' ow' cv' sv' → P (unw AP MT (.exit 0) fr ⟨n', g'⟩ S)) →
    ∀ fr : Fr, fr 0 = .ptr o 0 0 → fr 1 = vi to → P (evS AP MT (.loop l_250_0) fr ⟨n, g⟩ S) := by
  intro f
  induction f with
  | zero =>
    intro p h l n g ow cv sv W w hto hl hE fr f0 f1
    obtain ⟨_, _, hnow, _⟩ := unw_wf 0 w hto hl
    have hnow : h.now = to := hnow
    rw [S_loop]
    simp [u_250_0, b_250_0, W.Ho, hnow, f0, f1]
    exact hE _ _ _ _ _ _ W
  | succ f ih =>
    intro p h l n g ow cv sv W w hto hl hE fr f0 f1
    have h0 : 0 ≤ h.now := by
      cases w.up with
      | nil => cases hto
      | cons h0 => exact h0
    obtain ⟨c, m, l', rfl, hc, hd, ht, fr', hn⟩ := w.head h0
    rw [S_loop]
    by_cases he : h.now = to
    · simp [u_250_0, b_250_0, W.Ho, he, f0, f1]
      refine hE n g ow cv sv _ ?_
      unfold unwS
      rw [if_pos he]
      exact W
    · have hto' : to ∈ l' := by
        rcases List.mem_cons.1 hto with e | e
        · exact absurd e.symm he
        · exact e
      have hs : 0 ≤ c.sender := by cases ht with
        | nil => cases hto'
        | cons h0 => exact h0
      have wl := w.leave h0 (fun c' hc' => by rw [hc] at hc'; injection hc' with e; subst e; exact hs)
      simp only [List.drop_one, List.tail_cons] at wl
      obtain ⟨ci, es, tv, kv, rfl, V⟩ := W.view hc
      obtain ⟨ow2, es2, g2, a2, V2⟩ := i_245 V h0
      have hun : unwS (f + 1) h to = unwS f (leaveS h) to := by rw [unwS, if_neg he]
      rw [hun] at hE
      simp [u_250_0, b_250_0, V.W.Ho, he, f0, f1, a2]
      exact ih V2.W wl hto' (by simpa using hl) hE _ (by simp) (by simp)
theorem i_250 (W : HW k Z A B [] o h n g ow cv sv) {p : GProg} {l : List Int} (w : WF p h l) {to : Int} (hto : to ∈ l) : To k Z A B [] o (unwS h.calls.length h to) (.tuple []) (run AP MT 250 [.ptr o 0 0, vi to] ⟨n, g⟩) := by
  have hll := up_len w.up
  rw [run_evS AP_250 _ _ rfl]
  simp [c_250]
  refine loop_250 _ _ to h.calls.length W w hto (by omega) (fun n1 g1 ow1 cv1 sv1 fr1 W1 => ?_) _ (by simp) (by simp)
  simp
  exact ⟨_, _, _, _, _, rfl, W1⟩
theorem i_226 (V : VW k Z A B [] o h n g ow ci es sv h.now.toNat c tv kv) (h0 : 0 ≤ h.now) (hl : c.stack.length ≤ 2097152) (v : GVal) : To k Z A B [] o (pushS h v) (.tuple []) (run AP MT 226 [eH o, aVal v] ⟨n, g⟩) := by
  have hr := i_247 V h0 rfl
  obtain ⟨g1, b1, b2, b3, g2, es2, ow2, kv2, b4, b5, V2⟩ := V.push hl v
  have hk := ok1_list V.s
  have ht := ok1_list V.t
  rw [push_eq V.hj, run_evS AP_226 _ _ rfl]
  simp [c_226, hr, V.Hc, V.He, b1, b2, b4, b5, hk.k, hk.g, hk.p, ht.k, ht.g, ht.p]
  exact ⟨_, _, _, _, _, rfl, V2.W⟩
theorem i_229 (W : HW k Z A B [] o h n g ow cv sv) (hl : h.said.length ≤ 4294967296) (v : GVal) (hv : v.kind = 2 → 0 ≤ v.num ∧ v.num < h.calls.length) : To k Z A B [] o (sayS h v) (.tuple []) (run AP MT 229 [eH o, aVal v] ⟨n, g⟩) := by
  rw [run_evS AP_229 _ _ rfl]
  unfold sayS
  obtain ⟨n1, g1, ow1, cv1, sv1, a1, W1⟩ := i_248 W hl (toldV h v)
  by_cases h2 : v.kind = 2
  · obtain ⟨b0, b1⟩ := hv h2
    obtain ⟨c, hc⟩ : ∃ c, h.calls[v.num.toNat]? = some c := ⟨_, List.getElem?_eq_getElem (by omega)⟩
    obtain ⟨ci, es, tv, kv, rfl, V⟩ := W.view hc
    have ht : toldV h v = ⟨2, c.method⟩ := by simp [toldV, h2, hc]
    have hlk := i_246 V b0 rfl
    have htv := ok1_list V.t
    rw [ht] at a1 W1 ⊢
    simp [c_229, h2, hlk, htv.k, htv.g, htv.p, a1]
    exact ⟨_, _, _, _, _, rfl, W1⟩
  · have ht : toldV h v = v := by simp [toldV, h2]
    rw [ht] at a1 W1 ⊢
    simp [c_229, h2, a1]
    exact ⟨_, _, _, _, _, rfl, W1⟩
end
end Go.Ai
set_option linter.unusedSimpArgs false
set_option linter.unusedVariables false
namespace Go.Ai
attribute [local simp] cnd_ite gS_ite callBy_whole
attribute [local simp] inv_0 inv_1 inv_2 inv_3 inv_4 inv_5 inv_6 inv_7 inv_8
section
variable {k n : Nat} {Z : Heap'} {A B : List Nat} {o : Nat} {p : GProg} {h : GHeap} {g : Heap'} {ow : Ow} {cv sv : AVal}
variable {ci : Nat} {es : Obj'} {j : Nat} {c : GCall} {tv kv : AVal}
theorem i_242 (W : HW k Z A B [] o h n g ow cv sv) (hl : h.calls.length ≤ 1000) (hb : 0 ≤ h.born ∧ h.born < 30) (method : Int) (m : GMethod) (args : List GVal) (h0 : 0 ≤ method ∧ method < p.length) (hm : p[method.toNat]? = some m) (ht : 0 ≤ m.temps ∧ m.temps ≤ 1000) (ha : (args.length : Int) ≤ m.temps) :
    To k Z A B [] o (callS p h method args) (.tuple []) (run AP MT 242 [.ptr o 0 0, aProg p, vi method, lVal args] ⟨n, g⟩) := by
  rw [run_evS AP_242 _ _ rfl]
  unfold callS
  rw [if_neg (by omega), hm]
  obtain ⟨v, n1, g1, a1, a2⟩ := call_251 (mt := MT) p method m args h.now h0 hm ht ha n g
  obtain ⟨y1, y2, y3, y4, y5⟩ := a2.own (fun _ => none) (A ++ [h.calls.length, 2])
  have hv := ok1_list y3
  have ho1 : g1 o = g o := y4 o (by have := W.ok.2; omega)
  have hf : ∀ id q, (if n1 = n then (fun _ => none) else updW (fun _ => none) n (A ++ [h.calls.length, 2])) id = some q → n ≤ id ∧ id < n1 ∧ A ++ [h.calls.length] <+: q := by
    intro id q hq
    split at hq
    · cases hq
    · simp only [updW] at hq
      split at hq
      · rename_i e; subst e; injection hq with hq; subst hq; exact ⟨Nat.le_refl _, by omega, ⟨[2], by simp⟩⟩
      · cases hq
  have ht' : Own g1 (if n1 = n then (fun _ => none) else updW (fun _ => none) n (A ++ [h.calls.length, 2])) (A ++ [h.calls.length, 2]) (lVal (newC m method args h.now).temps) v := by
    split
    · rename_i e
      rcases a2 with ⟨e1, rfl, _, _⟩ | ⟨_, _, e2, _⟩
      · rw [e1]; exact .nil _
      · omega
    · exact y3
  obtain ⟨g2, b1, b2, g3, ow3, b3, W3⟩ := W.enter (by omega) (newC m method args h.now) y1 (fun id hid => y4 id (by omega)) hf (fun _ => y5) ht' (kv' := .nils) (.nil _)
  obtain ⟨g4, c1, _, W4, _⟩ := W3.root (h' := { h with calls := h.calls ++ [newC m method args h.now], now := h.calls.length }) (off := 1) (x := vi h.calls.length) rfl (by simp) rfl rfl
  obtain ⟨g5, d1, _, W5, _⟩ := W4.root (h' := { h with calls := h.calls ++ [newC m method args h.now], born := h.born + 1, now := h.calls.length }) (off := 2) (x := vi (h.born + 1)) rfl (by simp) rfl rfl
  have hc := ok1_list W.c
  have hwr : IntKind.i64.wrap (h.born + 1) = h.born + 1 := wrap_id (by omega) (by omega)
  have hwl : IntKind.i64.wrap (h.calls.length : Int) = h.calls.length := wrap_id (by omega) (by omega)
  simp only [newC] at b1
  simp at b2 b3 c1 d1
  simp [c_242, W.Ho, stH_root, a1, ho1, b1, b2, b3, hc.k, hc.g, hc.p, hv.k, hv.g, hv.p, W3.Ho, hwr, c1, W4.Ho, hwl, d1]
  exact ⟨_, _, _, _, _, rfl, W5⟩
end
/-- The kinds that an operation's values are of. -/
def mKinds (k : Int) : List Int := if k = 5 then [1, 1] else if k = 6 then [-1, -1] else if k = 3 ∨ k = 4 ∨ k = 8 ∨ k = 10 ∨ k = 16 then [-1] else if k = 12 ∨ k = 13 ∨ k = 17 ∨ k = 18 then [2] else if k = 14 ∨ k = 15 then [2, -1] else []
def mTk (k : Int) : Int := if k = 3 ∨ k = 4 ∨ k = 8 ∨ k = 10 ∨ k = 16 ∨ k = 12 ∨ k = 13 ∨ k = 17 ∨ k = 18 then 1 else if k = 5 ∨ k = 6 ∨ k = 14 ∨ k = 15 then 2 else 0
def mLf (k : Int) : Int := if k = 1 ∨ k = 2 ∨ k = 5 ∨ k = 6 ∨ k = 9 ∨ k = 11 ∨ k = 12 ∨ k = 13 ∨ k = 15 ∨ k = 17 ∨ k = 18 then 1 else 0
theorem mT_full (k : Int) (h : 1 ≤ k ∧ k ≤ 18) : ∃ a d, mT[k.toNat]? = some [.str a, vi (mTk k), vi (mLf k), d, mOf k] ∧ (d = lInt (mKinds k) ∨ (d = .nils ∧ mKinds k = [])) := by
  have : k = 1 ∨ k = 2 ∨ k = 3 ∨ k = 4 ∨ k = 5 ∨ k = 6 ∨ k = 7 ∨ k = 8 ∨ k = 9 ∨ k = 10 ∨ k = 11 ∨ k = 12 ∨ k = 13 ∨ k = 14 ∨ k = 15 ∨ k = 16 ∨ k = 17 ∨ k = 18 := by omega
  rcases this with h | h | h | h | h | h | h | h | h | h | h | h | h | h | h | h | h | h <;> subst h <;> first | exact ⟨_, _, rfl, .inl rfl⟩ | exact ⟨_, _, rfl, .inr ⟨rfl, rfl⟩⟩
theorem takes_mT {p : GProg} {op : GOp} (h9 : op.kind ≠ 9) : takesS p op = (mTk op.kind, mLf op.kind) := by
  unfold takesS mTk mLf
  by_cases a1 : op.kind = 1 ∨ op.kind = 2 ∨ op.kind = 11
  · rw [if_pos a1, if_neg (by omega), if_neg (by omega), if_pos (by omega)]
  rw [if_neg a1]
  by_cases a2 : op.kind = 3 ∨ op.kind = 4 ∨ op.kind = 8 ∨ op.kind = 10 ∨ op.kind = 16
  · rw [if_pos a2, if_pos (by omega), if_neg (by omega)]
  rw [if_neg a2]
  by_cases a3 : op.kind = 5 ∨ op.kind = 6
  · rw [if_pos a3, if_neg (by omega), if_pos (by omega), if_pos (by omega)]
  rw [if_neg a3]
  by_cases a4 : op.kind = 12 ∨ op.kind = 13 ∨ op.kind = 17 ∨ op.kind = 18
  · rw [if_pos a4, if_pos (by omega), if_pos (by omega)]
  rw [if_neg a4]
  by_cases a5 : op.kind = 14
  · rw [if_pos a5, if_neg (by omega), if_pos (by omega), if_neg (by omega)]
  rw [if_neg a5]
  by_cases a6 : op.kind = 15
  · rw [if_pos a6, if_neg (by omega), if_pos (by omega), if_pos (by omega)]
  rw [if_neg a6, if_neg h9, if_neg (by omega), if_neg (by omega), if_neg (by omega)]
variable {mt : Nat → Nat → Option Nat}
theorem m_110f (k : Int) (h : 1 ≤ k ∧ k ≤ 18) : ∃ a d, Q mt 110 [vi k] (.tuple [.agg [.str a, vi (mTk k), vi (mLf k), d, mOf k], .bool true]) := by
  obtain ⟨a, d, h1, h2⟩ := mT_full k h
  refine ⟨a, lInt (mKinds k), Q.of rfl (fun n => ?_)⟩
  have q := m_122 (mt := mt)
  have q2 := fun a b c => r_66 (mt := mt) a b c
  unfold Q at q q2
  have hr : inR k 1 18 = true := inR_iff.2 h
  have hix := fun g => idx_ok (g := g) (k := .i64) w_mT (show (0:Int) ≤ k by omega) (by show k < ((19 : Nat) : Int); omega)
  obtain ⟨_, _, _, _, _, _, _, _, h3⟩ := mT_row k h
  have hd : frz 6 noObj d = some (lInt (mKinds k)) ∧ gv d = some d := by
    rcases h2 with rfl | ⟨rfl, e⟩
    · refine ⟨?_, rfl⟩
      have := (Own.frz (g := noObj) (ow := fun _ => none) (p := []) (a := lInt (mKinds k)) (v := lInt (mKinds k)))
      rfl
    · rw [e]; exact ⟨rfl, rfl⟩
  rw [run_evS AP_110 _ _ rfl]
  simp [c_110, q, q2, hr, hix, h1, hd.2]
  exact Gv.some (by repeat (first | exact Nat.le_refl _ | apply le_nxt)) (by
    have e1 := hd.1
    have e2 := h3 3 noObj
    show ((omap (frz 7 noObj) [.agg [.str a, vi (mTk k), vi (mLf k), d, mOf k], .bool true]).map AVal.tuple) = _
    have e3 : frz 7 noObj (.agg [.str a, vi (mTk k), vi (mLf k), d, mOf k]) = some (.agg [.str a, vi (mTk k), vi (mLf k), lInt (mKinds k), mOf k]) := by
      show ((omap (frz 6 noObj) [.str a, vi (mTk k), vi (mLf k), d, mOf k]).map AVal.agg) = _
      simp only [omap, e1, e2, show frz 6 noObj (.str a) = some (.str a) from rfl, show ∀ b, frz 6 noObj (vi b) = some (vi b) from fun _ => rfl, Option.bind_some, Option.map_some]
    simp only [omap, e3, show frz 7 noObj (.bool true) = some (.bool true) from rfl, Option.bind_some, Option.map_some])
theorem m_237 (p : GProg) (op : GOp) (hp : p.length ≤ 2097152) (h : 1 ≤ op.kind ∧ op.kind ≤ 18) : Q mt 237 [aProg p, aOp op] (.tuple [vi (takesS p op).1, vi (takesS p op).2]) := by
  obtain ⟨a, d, q⟩ := m_110f (mt := mt) op.kind h
  have q2 := fun a b c => r_66 (mt := mt) a b c
  have hwl : IntKind.i64.wrap ((p.length : Int) - 1) = p.length - 1 := wrap_id (by omega) (by omega)
  unfold Q at q q2
  refine Q.of rfl (fun k => ?_)
  rw [run_evS AP_237 _ _ rfl]
  by_cases h9 : op.kind = 9
  · obtain ⟨κ, b⟩ := op
    dsimp only at h9
    subst h9
    by_cases hr : inR b 0 (p.length - 1) = true
    · have hr' := inR_iff.1 hr
      have hix := fun g => idx_ok (g := g) (k := .i64) (w_Method p) hr'.1 (by simp; omega)
      obtain ⟨m, hm⟩ : ∃ m, p[b.toNat]? = some m := ⟨_, List.getElem?_eq_getElem (by omega)⟩
      have e : takesS p ⟨9, b⟩ = (m.args, 1) := by simp [takesS, hr, hm]
      rw [e]
      dsimp only at q
      simp [c_237, q, q2, hwl, hr, hix, hm, mLf]
      exact Gv.some (by repeat (first | exact Nat.le_refl _ | apply le_nxt)) rfl
    · have e : takesS p ⟨9, b⟩ = (0, 0) := by simp [takesS, hr]
      rw [e]
      dsimp only at q
      simp [c_237, q, q2, hwl, hr]
      exact Gv.some (by repeat (first | exact Nat.le_refl _ | apply le_nxt)) rfl
  · rw [takes_mT h9]
    simp [c_237, q, h9]
    exact Gv.some (by repeat (first | exact Nat.le_refl _ | apply le_nxt)) rfl
end Go.Ai
