/- The specification's runs of a heap. The chain of a heap at work; the specification's HeapOut and HeapOver. The program's copies of lists, calls and heaps, and its new calls. The program's heap at work: its methods, one by one. The program's heap at work: a call begins; what an operation takes. -/
import Derived.Test.YtffliemhdjcflaaD3
import Derived.Test.YtffliemhdjcflaaB10
set_option linter.unusedSimpArgs false
set_option linter.unusedVariables false
namespace Go.Ai
variable {mt : Nat → Nat → Option Nat}
attribute [local simp] cnd_ite gS_ite callBy_whole
/-- A new struct for it. -/
theorem HW.new {k m : Nat} {Z : Heap'} {h : GHeap} {cv sv : AVal} {g : Heap'} (hle : k ≤ m) (hz : ∀ id, id < k → g id = Z id) {A B : List Nat} (F : ∃ ow, Own g ow A (lCall h.calls) cv ∧ Own g ow B (lVal h.said) sv ∧ ∀ id s, ow id = some s → k ≤ id ∧ id < m ∧ (A <+: s ∨ B <+: s)) (dj : ∀ s, A <+: s → ¬ B <+: s) (pre : List AVal) (hni : pre = [] → noImmO g) :
    ∃ ow, HW k Z A B pre m h (m + 1) (updO g m (some [pre ++ [cv, vi h.now, vi h.born, sv, vi h.code]])) ow cv sv := by
  obtain ⟨ow, a1, a2, a3⟩ := F
  have K : ∀ P, Keep g ow (updO g m (some [pre ++ [cv, vi h.now, vi h.born, sv, vi h.code]])) ow P := fun P => Keep.refl.upd (fun q hq => by have := (a3 m q hq).2.1; omega)
  refine ⟨ow, dj, by simp [updO], ?_, ⟨hle, by omega⟩, a1.mono (K _), a2.mono (K _), fun id q hq => ?_, fun id hid => ?_, fun hp => ni_upd (hni hp) (fun e he c hc => ?_)⟩
  · cases ho : ow m with
    | none => rfl
    | some q => have := (a3 m q ho).2.1; omega
  · have := a3 id q hq; exact ⟨this.1, by omega, this.2.2⟩
  · simp only [updO]; rw [if_neg (by omega)]; exact hz id hid
  · subst hp
    simp at he; subst he; simp at hc
    rcases hc with rfl | rfl | rfl | rfl | rfl
    · exact own_ni a1
    · rfl
    · rfl
    · exact own_ni a2
    · rfl
/-- A heap that is answered, owned, as such or with whether it is one. -/
def OutHA (k : Nat) (A B : List Nat) (h : GHeap) (W : AVal → AVal) (x : R) : Prop := ∃ cv sv m g ow, x = some (W (.agg [cv, vi h.now, vi h.born, sv, vi h.code]), ⟨m, g⟩) ∧ k ≤ m ∧ Own g ow A (lCall h.calls) cv ∧ Own g ow B (lVal h.said) sv ∧
  (∀ id q, ow id = some q → k ≤ id ∧ id < m ∧ (A <+: q ∨ B <+: q)) ∧ (∀ id, id < k → g id = none)
theorem HW.out {k n : Nat} {A B : List Nat} {pre : List AVal} {o : Nat} {h : GHeap} {g : Heap'} {ow : Ow} {cv sv : AVal} (W : HW k noObj A B pre o h n g ow cv sv) (F : AVal → AVal) : OutHA k A B h F (some (F (.agg [cv, vi h.now, vi h.born, sv, vi h.code]), ⟨n, g⟩)) :=
  ⟨cv, sv, n, g, ow, rfl, W.kn, W.c, W.s, W.f, W.z⟩
theorem outA_zero (k n : Nat) (hk : k ≤ n) (A B : List Nat) (F : AVal → AVal) : OutHA k A B zeroH F (some (F (.agg [.nils, vi 0, vi 0, .nils, vi 0]), ⟨n, noObj⟩)) :=
  ⟨.nils, .nils, n, noObj, fun _ => none, rfl, hk, .nil _, .nil _, fun id q h => (by cases h), fun _ _ => rfl⟩
theorem call_100 (h : GHeap) (hh : ShH h) (n : Nat) (g : Heap') (hz : g = noObj) : ∃ cv sv n1 g1, callBy (run AP mt) (.alone false false) 100 [aHeap h] ⟨n, g⟩ = some (.agg [cv, vi h.now, vi h.born, sv, vi h.code], ⟨n1, g1⟩) ∧ FlH n n1 h cv sv g1 ∧ Ok1 cv ∧ Ok1 sv := by
  subst hz
  obtain ⟨cv, sv, m, g1, a1, a2⟩ := s_100 (mt := mt) h hh n
  obtain ⟨ow, b1, b2, _⟩ := a2.own [] []
  have he : ovr noObj g1 = g1 := by funext t; simp only [ovr, noObj]; cases g1 t <;> rfl
  refine ⟨cv, sv, m, g1, ?_, a2, ok1_list b1, ok1_list b2⟩
  have hf : frzs noObj [aHeap h] = some [aHeap h] := rfl
  unfold callBy
  simp [hf, a1, a2.le, he]
section
variable {k : Nat} {Z : Heap'} {A B : List Nat} {p : GProg} {o : Nat}
theorem loop_75 (P : R → Prop) (S : List KF) (steps : Nat) (hst : steps ≤ 400) (b : AVal) (hb : kv b = b) : ∀ (j i : Nat) {h : GHeap} {l : List Int} {n : Nat} {g : Heap'} {ow : Ow} {cv sv : AVal}, i + j = steps → HW k Z A B (preS p) o h n g ow cv sv → WF p h l → h.said.length + j ≤ 4294967296 →
    (∀ n' g' ow' cv' sv' fr, HW k Z A B (preS p) o (runS p j h) n' g' ow' cv' sv' → fr 8 = .ptr o 0 0 → fr 6 = b → P (unw AP mt (.exit 0) fr ⟨n', g'⟩ S)) →
    ∀ fr : Fr, fr 2 = vi steps → fr 6 = b → fr 8 = .ptr o 0 0 → fr 9 = vi i → P (evS AP mt (.loop l_75_0) fr ⟨n, g⟩ S) := by
  intro j
  induction j with
  | zero =>
    intro i h l n g ow cv sv hij W w hs hE fr f2 f6 f8 f9
    have hc : ¬ ((i : Int) < steps) := by omega
    rw [S_loop]
    simp [u_75_0, b_75_0, f2, f6, f8, f9, hc, hb]
    exact hE _ _ _ _ _ _ W (by simp) (by simp)
  | succ j ih =>
    intro i h l n g ow cv sv hij W w hs hE fr f2 f6 f8 f9
    have hc : (i : Int) < steps := by omega
    have hwr : IntKind.i64.wrap ((i : Int) + 1) = (i : Int) + 1 := wrap_id (by omega) (by omega)
    rw [S_loop]
    by_cases h0 : h.code = 0
    · have hnow := w.run0 h0
      obtain ⟨n1, g1, ow1, cv1, sv1, e1, W1⟩ := s_101 (mt := mt) W w hnow (by omega)
      obtain ⟨l1, w1⟩ := step_wf w hnow
      have hsd := step_said w hnow
      have hr : runS p (j + 1) h = runS p j (stepS p h) := by rw [runS, if_pos h0]
      rw [hr] at hE
      simp [u_75_0, b_75_0, f2, f6, f8, f9, hc, hb, W.Ho, h0, e1, hwr]
      exact ih (i + 1) (by omega) W1 w1 (by omega) hE _ (by simp) (by simp [hb]) (by simp) (by simp)
    · have hr : runS p (j + 1) h = h := by rw [runS, if_neg h0]
      rw [hr] at hE
      simp [u_75_0, b_75_0, f2, f6, f8, f9, hc, hb, W.Ho, h0]
      exact hE _ _ _ _ _ _ W (by simp) (by simp)
theorem s_75 (p : GProg) (h : GHeap) (steps : Int) (hp : ShP p) (hh : ShH h) (dj : ∀ s, A <+: s → ¬ B <+: s) (k : Nat) : OutHA k A B (runR p h steps).1 (fun v => .tuple [v, .bool (runR p h steps).2]) (run AP mt 75 [aProg p, aHeap h, vi steps] ⟨k, noObj⟩) := by
  have q := r_25 (mt := mt) p h hp hh
  have q2 := fun a b c => r_55 (mt := mt) a b c
  unfold Q at q q2
  rw [run_evS AP_75 _ _ rfl]
  unfold runR
  by_cases h1 : heapOkS p h = true
  · by_cases h2 : inR steps 0 400 = true
    · rw [if_pos ⟨h1, h2⟩]
      have hs := inR_iff.1 h2
      have w := wf_of h1
      generalize hN : nxt AP mt 55 [vi steps, vi 0, vi 400] (nxt AP mt 25 [aProg p, aHeap h] k) = N
      have hkN : k ≤ N := by rw [← hN]; repeat (first | exact Nat.le_refl _ | apply le_nxt)
      obtain ⟨cv, sv, n1, g1, a1, F, k1, k2⟩ := call_100 (mt := mt) h hh N noObj rfl
      have F' : FlH k n1 h cv sv g1 := ⟨by have := F.le; omega, fun id hid => F.z id (by omega), fun A B => by obtain ⟨ow, b1, b2, b3⟩ := F.own A B; exact ⟨ow, b1, b2, fun id s hs => by have := b3 id s hs; exact ⟨by omega, this.2⟩⟩⟩
      obtain ⟨ow, W⟩ := HW.new (Z := noObj) F'.le F'.z (F'.own A B) dj (preS p) (by intro e; cases e)
      have hhs := hh.s
      simp only [List.cons_append, List.nil_append] at W
      simp [c_75, q, q2, h1, h2, hN, a1, k1.k, k1.g, k1.p, k1.c, k2.k, k2.g, k2.p, k2.c]
      refine loop_75 (mt := mt) (P := OutHA k A B (runS p steps.toNat h) fun v => .tuple [v, .bool true]) _ steps.toNat (by omega) (.pbox [.nils, vi 0, vi 0, .nils, vi 0]) rfl steps.toNat 0 (by omega) W w (by omega) (fun n2 g2 ow2 cv2 sv2 fr W2 f8 f6 => ?_) _ (by simp; omega) (by simp) (by simp) (by simp)
      simp [f8, f6, W2.Ho, (ok1_list W2.c).k, (ok1_list W2.c).g, (ok1_list W2.c).p, (ok1_list W2.s).k, (ok1_list W2.s).g, (ok1_list W2.s).p]
      exact W2.out fun v => .tuple [v, .bool true]
    · rw [if_neg (fun hc => h2 hc.2)]
      simp [c_75, q, q2, h1, h2]
      exact outA_zero k _ (by repeat (first | exact Nat.le_refl _ | apply le_nxt)) A B (fun v => .tuple [v, .bool false])
  · rw [if_neg (fun hc => h1 hc.1)]
    simp [c_75, q, q2, h1]
    exact outA_zero k _ (by repeat (first | exact Nat.le_refl _ | apply le_nxt)) A B (fun v => .tuple [v, .bool false])
end
end Go.Ai
set_option linter.unusedSimpArgs false
set_option linter.unusedVariables false
namespace Go.Ai
variable {mt : Nat → Nat → Option Nat}
attribute [local simp] cnd_ite gS_ite callBy_whole
section
variable {k : Nat} {Z : Heap'} {A B : List Nat} {p : GProg} {o : Nat}
end
theorem djx : ∀ s : List Nat, [0] <+: s → ¬ [1] <+: s := fun s h1 h2 => by have := pre_head h1 h2; omega
end Go.Ai
set_option linter.unusedSimpArgs false
set_option linter.unusedVariables false
namespace Go.Ai
variable {mt : Nat → Nat → Option Nat}
attribute [local simp] cnd_ite gS_ite callBy_whole
theorem i_48 (l : List GVal) (hl : l.length ≤ 2097152) (k : Nat) : ∃ v m g, run AP mt 48 [lVal l] ⟨k, noObj⟩ = some (v, ⟨m, g⟩) ∧ New k noObj m g l v := by
  rw [run_evS AP_48 _ _ rfl]
  by_cases h : l = []
  · subst h
    simp [c_48, isnilV]
    rw [cndS_any (r := (.ret, upd fr0 2 .nils, ⟨k, noObj⟩))]
    · simp
      exact ⟨.nils, k, noObj, ⟨rfl, rfl, rfl⟩, .inl ⟨rfl, rfl, rfl, rfl⟩⟩
    · simp [ev_seq, ev_reg, ev_ret, evIs, evI, evD, evOp, put]
    · simp [ev_seq, ev_reg, ev_ret, ev_skip, evIs, evI, evD, evOp, put, appV, srcOf]
  · obtain ⟨n1, g1, v1, a1, a2⟩ := app_new (g := noObj) (n := k) (y := lVal l) (l := l) rfl (by omega)
    have F := a2.fl (Nat.le_refl _) (fun _ _ => rfl)
    have hk := F.ok
    simp [c_48, isnilV, h, a1, hk.k, hk.g, hk.p]
    exact ⟨v1, n1, g1, ⟨rfl, rfl, rfl⟩, a2⟩
theorem New.ni {n n' : Nat} {g g1 : Heap'} {l : List GVal} {v : AVal} (h : New n g n' g1 l v) : noImm v = true := by
  rcases h with ⟨_, rfl, _, _⟩ | ⟨_, rfl, _, _⟩ <;> rfl
/-- A list copied, whatever it lies in. -/
theorem call_48 {a : AVal} {l : List GVal} (hl : l.length ≤ 2097152) {n : Nat} {g : Heap'} (ha : frz 8 g a = some (lVal l)) : ∃ v m g', callBy (run AP mt) (.alone true false) 48 [a] ⟨n, g⟩ = some (v, ⟨m, g'⟩) ∧ New n g m g' l v := by
  obtain ⟨v, m, g1, a1, a2⟩ := i_48 (mt := mt) l hl n
  have hf : frzs g [a] = some [lVal l] := by simp [frzs, omap, ha]
  have h1 := (a2.own (fun _ => none) []).1
  have h2 := (a2.own (fun _ => none) []).2.2.2.2 (by intro id es h; cases h)
  refine ⟨v, m, ovr g g1, ?_, ?_⟩
  · unfold callBy
    simp [hf, a1, h1, a2.ni, h2]
  · rcases a2 with ⟨rfl, rfl, rfl, rfl⟩ | ⟨hne, rfl, rfl, rfl⟩
    · exact .inl ⟨rfl, rfl, rfl, by funext t; rfl⟩
    · refine .inr ⟨hne, rfl, rfl, ?_⟩
      funext t
      simp only [ovr, updO, noObj]
      split <;> rfl
theorem i_49 (c : GCall) (hl : c.temps.length ≤ 2097152 ∧ c.stack.length ≤ 2097152) (k : Nat) : OutC k c (run AP mt 49 [aCall c] ⟨k, noObj⟩) := by
  obtain ⟨v1, n1, g1, a1, a2⟩ := call_48 (mt := mt) (a := lVal c.temps) hl.1 (n := k) (g := noObj) rfl
  have F1 := a2.fl (Nat.le_refl _) (fun _ _ => rfl)
  obtain ⟨v2, n2, g2, b1, b2⟩ := call_48 (mt := mt) (a := lVal c.stack) hl.2 (n := n1) (g := g1) rfl
  have hb := b2.own (fun _ => none) []
  have F2 : FlV n1 n2 c.stack v2 (fun id => if id < n1 then none else g2 id) := by
    rcases b2 with ⟨e1, rfl, rfl, rfl⟩ | ⟨hne, rfl, rfl, rfl⟩
    · exact ⟨.inl ⟨e1, rfl⟩, Nat.le_refl _, fun id hid => by simp [hid]⟩
    · exact ⟨.inr ⟨hne, n1, Nat.le_refl _, by omega, rfl, by simp [updO]⟩, by omega, fun id hid => by simp [hid]⟩
  have k1 := F1.ok
  have k2 := F2.ok
  have hle := F1.2.1
  rw [run_evS AP_49 _ _ rfl]
  simp [c_49, a1, b1, k1.k, k1.g, k1.p, k1.c, k2.k, k2.g, k2.p, k2.c]
  refine ⟨v1, v2, n2, g2, rfl, by omega, fun id hid => ?_, fun p => fl_two F1 F2 (fun id hid => hb.2.2.2.1 id (by omega)) p 2 3 (by decide)⟩
  rw [hb.2.2.2.1 id (by omega)]; exact F1.2.2 id hid
theorem New.ovr {n n' : Nat} {g g1 : Heap'} {l : List GVal} {v : AVal} (h : New n noObj n' g1 l v) : New n g n' (ovr g g1) l v := by
  rcases h with ⟨rfl, rfl, rfl, rfl⟩ | ⟨hne, rfl, rfl, rfl⟩
  · exact .inl ⟨rfl, rfl, rfl, by funext t; rfl⟩
  · refine .inr ⟨hne, rfl, rfl, ?_⟩
    funext t
    simp only [Ai.ovr, updO, noObj]
    split <;> rfl
end Go.Ai
set_option linter.unusedSimpArgs false
set_option linter.unusedVariables false
namespace Go.Ai
attribute [local simp] cnd_ite gS_ite callBy_whole
section
variable {k n : Nat} {Z : Heap'} {A B : List Nat} {o : Nat} {h : GHeap} {g : Heap'} {ow : Ow} {cv sv : AVal}
variable {ci : Nat} {es : Obj'} {j : Nat} {c : GCall} {tv kv : AVal}
end
end Go.Ai
set_option linter.unusedSimpArgs false
set_option linter.unusedVariables false
namespace Go.Ai
attribute [local simp] cnd_ite gS_ite callBy_whole
section
variable {k n : Nat} {Z : Heap'} {A B : List Nat} {o : Nat} {p : GProg} {h : GHeap} {g : Heap'} {ow : Ow} {cv sv : AVal}
variable {ci : Nat} {es : Obj'} {j : Nat} {c : GCall} {tv kv : AVal}
end
variable {mt : Nat → Nat → Option Nat}
end Go.Ai
