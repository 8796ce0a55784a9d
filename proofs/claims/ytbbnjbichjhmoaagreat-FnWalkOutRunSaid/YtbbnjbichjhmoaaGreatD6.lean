/- How deep a heap is; the program's HeapOut and HeapOver. Nothing read only is left by the program's copies; its HeapOut and HeapOver. The program's HeapOut and HeapOver. Marks on an owned heap, and what is held of it. The law FnExactHeapOut, as a run of the lowered program. -/
import Derived.Test.YtbbnjbichjhmoaaGreatD5
set_option linter.unusedSimpArgs false
set_option linter.unusedVariables false
namespace Go.Ai
attribute [local simp] cnd_ite gS_ite callBy_whole
attribute [local simp] inv_0 inv_1 inv_2 inv_3 inv_4 inv_5 inv_6 inv_7 inv_8
section
variable {mt : Nat → Nat → Option Nat}
theorem ml_26 (h : GHeap) (hl : h.calls.length ≤ 2097152) (k : Nat) (S : List KF) (hR : ∀ fr m, k ≤ m → fr 2 = vi 0 → Gv k (vi 0) (unw AP mt .ret fr ⟨m, noObj⟩ S))
    (hE : ∀ fr m (x : Int), k ≤ m → fr 3 = vi x → Gv k (vi x) (unw AP mt (.exit 0) fr ⟨m, noObj⟩ S)) :
    ∀ (f : Nat) (at' : Int) (out : List Int) (n : Nat), f + out.length = h.calls.length → k ≤ n →
      Gv k (vi (chainF h.calls f at' out).length) (evS AP mt (.loop l_26_0) (upd (upd (upd fr0 4 (vi at')) 3 (vi out.length)) 1 (.pbox [lCall h.calls, vi h.now, vi h.born, lVal h.said, vi h.code])) ⟨n, noObj⟩ S) := by
  intro f
  induction f with
  | zero =>
    intro at' out n hf hn
    rw [S_loop]
    by_cases ha : at' < 0
    · have ha' : ¬ 0 ≤ at' := by omega
      simp [u_26_0, b_26_0, ha, ha', chainF]
      exact hE _ _ _ hn (by simp)
    · have ha' : 0 ≤ at' := by omega
      have hwr : IntKind.i64.wrap ((out.length : Int) + 1) = out.length + 1 := wrap_id (by omega) (by omega)
      have hc : (h.calls.length : Int) < out.length + 1 := by omega
      simp only [chainF, if_neg ha]
      by_cases hb : (h.calls.length : Int) ≤ at'
      · simp [u_26_0, b_26_0, ha', hwr, hb]
        exact hR _ _ hn (by simp)
      · simp [u_26_0, b_26_0, ha', hwr, hb, hc]
        exact hR _ _ hn (by simp)
  | succ f ih =>
    intro at' out n hf hn
    rw [S_loop]
    by_cases ha : at' < 0
    · have ha' : ¬ 0 ≤ at' := by omega
      simp [u_26_0, b_26_0, ha, ha', chainF]
      exact hE _ _ _ hn (by simp)
    have ha' : 0 ≤ at' := by omega
    have hwr : IntKind.i64.wrap ((out.length : Int) + 1) = out.length + 1 := wrap_id (by omega) (by omega)
    have hc : ¬ (h.calls.length : Int) < out.length + 1 := by omega
    by_cases hb : (h.calls.length : Int) ≤ at'
    · simp only [chainF, if_neg ha, if_pos hb]
      simp [u_26_0, b_26_0, ha', hwr, hb]
      exact hR _ _ hn (by simp)
    obtain ⟨c, hcc⟩ : ∃ c, h.calls[at'.toNat]? = some c := ⟨_, List.getElem?_eq_getElem (by omega)⟩
    have hix := fun g => idx_ok (g := g) (k := .i64) (w_Call h.calls) (show (0:Int) ≤ at' by omega) (by simp; omega)
    simp only [chainF, if_neg ha, if_neg hb, hcc]
    cases hd : c.dead
    · have hi := ih c.sender (out ++ [at']) n (by simp; omega) hn
      rw [show (((out ++ [at']).length : Nat) : Int) = (out.length : Int) + 1 by simp] at hi
      simp [u_26_0, b_26_0, ha', hwr, hb, hc, hix, hcc, hd]
      simpa using hi
    · simp [u_26_0, b_26_0, ha', hwr, hb, hc, hix, hcc, hd]
      exact hR _ _ hn (by simp)
theorem m_26 (h : GHeap) (hl : h.calls.length ≤ 2097152) : Q mt 26 [aHeap h] (vi (deepS h)) := by
  refine Q.of rfl (fun k => ?_)
  rw [run_evS AP_26 _ _ rfl]
  simp [c_26]
  refine ml_26 (mt := mt) h hl k _ (fun fr m hm h2 => ?_) (fun fr m x hm h3 => ?_) h.calls.length h.now [] k (by simp) (Nat.le_refl _)
  · simp [h2]; exact Gv.some hm rfl
  · simp [h3]; exact Gv.some hm rfl
/-- What the functions of HeapOut and HeapOver hold for. -/
theorem g_188 (x did : Int) (k : Nat) : Gv k (.bool (decide (did ≤ x))) (run AP mt 188 [vi x, .iptr [[vi did]] 0 0] ⟨k, noObj⟩) := by
  rw [run_evS AP_188 _ _ rfl]
  simp [c_188]
  exact Gv.some (Nat.le_refl _) rfl
end
section
variable {k n : Nat} {Z : Heap'} {A B : List Nat} {o : Nat} {p : GProg} {h : GHeap} {g : Heap'} {ow : Ow} {cv sv : AVal}
theorem call_26 (W : HW k Z A B [] o h n g ow cv sv) (hl : h.calls.length ≤ 2097152) : ∃ N, n ≤ N ∧ callBy (run AP MT) (.alone true true) 26 [.agg [cv, vi h.now, vi h.born, sv, vi h.code]] ⟨n, g⟩ = some (vi (deepS h), ⟨N, g⟩) := by
  have hf : frzs g [.agg [cv, vi h.now, vi h.born, sv, vi h.code]] = some [aHeap h] := by
    have := fz_heap W.c W.s
    simp only [frzs, omap, this]; rfl
  have q := m_26 (mt := MT) h hl
  have hq := q_snap (AP := AP) (mt := MT) (f := 26) (as := [.agg [cv, vi h.now, vi h.born, sv, vi h.code]]) (as' := [aHeap h]) (v := vi (deepS h)) (G := ⟨n, g⟩) hf (fun k => by
    rw [run_evS AP_26 _ _ rfl]
    simp [c_26]
    refine ml_26 (mt := MT) h hl k _ (fun fr m hm h2 => ?_) (fun fr m x hm h3 => ?_) h.calls.length h.now [] k (by simp) (Nat.le_refl _)
    · simp [h2]; exact Gv.some hm rfl
    · simp [h3]; exact Gv.some hm rfl) rfl
  exact ⟨_, nxt_le, hq⟩
/-- A test asked, what it holds on to lying below. -/
theorem call_cl {f : Nat} {x did : Int} {b : Bool} {cid : Nat} (hg : g cid = some [[vi did]]) (hr : ∀ k, Gv k (.bool b) (run AP MT f [vi x, .iptr [[vi did]] 0 0] ⟨k, noObj⟩)) : ∃ N, n ≤ N ∧ callBy (run AP MT) (.alone true true) f [vi x, .ptr cid 0 0] ⟨n, g⟩ = some (.bool b, ⟨N, g⟩) := by
  have hz : frzs g [vi x, .ptr cid 0 0] = some [vi x, .iptr [[vi did]] 0 0] := by
    have h1 : frz 8 g (.ptr cid 0 0) = some (.iptr [[vi did]] 0 0) := by
      show ((g cid).bind fun es => (omap (omap (frz 7 g)) es).map fun es' => AVal.iptr es' 0 0) = _
      rw [hg]; rfl
    simp only [frzs, omap, h1]; rfl
  exact ⟨_, nxt_le, q_snap (AP := AP) (mt := MT) (G := ⟨n, g⟩) hz hr rfl⟩
end
/-- Steps while the heap runs, and it is one of the first, or something holds. -/
def whileL (p : GProg) (C : GHeap → Bool) (least : Int) : Nat → Nat → GHeap → GHeap
  | 0, _, h => h
  | j + 1, i, h => if h.code = 0 ∧ ((i : Int) < least ∨ C h = true) then whileL p C least j (i + 1) (stepS p h) else h
section
variable {k : Nat} {Z : Heap'} {A B : List Nat} {o : Nat} {p : GProg}
theorem loop_187 (P : R → Prop) (S : List KF) (least : Int) (most : Nat) (hst : most ≤ 400) (f cid : Nat) (did : Int) (hk : cid < k) (hZ : Z cid = some [[vi did]]) (T : Int → Bool) (hT : ∀ x k, Gv k (.bool (T x)) (run AP MT f [vi x, .iptr [[vi did]] 0 0] ⟨k, noObj⟩)) (b : AVal) (hb : kv b = b) :
    ∀ (j i : Nat) {h : GHeap} {l : List Int} {n : Nat} {g : Heap'} {ow : Ow} {cv sv : AVal}, i + j = most → HW k Z A B [] o h n g ow cv sv → WF p h l → h.said.length + j ≤ 4294967296 →
    (∀ n' g' ow' cv' sv' fr, HW k Z A B [] o (whileL p (fun x => T (deepS x)) least j i h) n' g' ow' cv' sv' → fr 6 = .ptr o 0 0 → fr 10 = b → P (unw AP MT (.exit 0) fr ⟨n', g'⟩ S)) →
    ∀ fr : Fr, fr 2 = vi least → fr 3 = vi most → fr 4 = .func f [.ptr cid 0 0] → fr 5 = .pbox [lMethod p] → fr 6 = .ptr o 0 0 → fr 10 = b → fr 11 = vi i → P (evS AP MT (.loop l_187_0) fr ⟨n, g⟩ S) := by
  intro j
  induction j with
  | zero =>
    intro i h l n g ow cv sv hij W w hs hE fr f2 f3 f4 f5 f6 f10 f11
    have hc : ¬ ((i : Int) < most) := by omega
    rw [S_loop]
    simp [u_187_0, b_187_0, f2, f3, f4, f5, f6, f10, f11, hc, hb]
    exact hE _ _ _ _ _ _ W (by simp) (by simp)
  | succ j ih =>
    intro i h l n g ow cv sv hij W w hs hE fr f2 f3 f4 f5 f6 f10 f11
    have hc : (i : Int) < most := by omega
    have hwr : IntKind.i64.wrap ((i : Int) + 1) = (i : Int) + 1 := wrap_id (by omega) (by omega)
    have hgc : g cid = some [[vi did]] := by rw [W.z cid hk]; exact hZ
    rw [S_loop]
    by_cases h0 : h.code = 0
    · have hnow := w.run0 h0
      have hbl := w.born
      have hll := w.len
      have hsd := step_said w hnow
      obtain ⟨l1, w1⟩ := step_wf w hnow
      by_cases hi : (i : Int) < least
      · obtain ⟨hx, code, he, n1, g1, ow1, cv1, sv1, e1, W1⟩ := i_206 W w h0 (by omega)
        obtain ⟨g2, a1, _, W2, _⟩ := W1.root (h' := { hx with code := code }) (off := 4) (x := vi code) rfl (by simp) rfl rfl
        simp at a1
        rw [he] at W2
        have hr : whileL p (fun x => T (deepS x)) least (j + 1) i h = whileL p (fun x => T (deepS x)) least j (i + 1) (stepS p h) := by rw [whileL, if_pos ⟨h0, .inl hi⟩]
        rw [hr] at hE
        simp [u_187_0, b_187_0, f2, f3, f4, f5, f6, f10, f11, hc, hb, W.Ho, h0, hi, e1, W1.Ho, stH_root, a1, hwr]
        exact ih (i + 1) (by omega) W2 w1 (by omega) hE _ (by simp) (by simp) (by simp) (by simp) (by simp) (by simp [hb]) (by simp)
      · obtain ⟨N, hN, q1⟩ := call_26 W (by omega)
        obtain ⟨N2, hN2, q2⟩ := call_cl (n := N) (g := g) hgc (hT (deepS h))
        have W0 := W.keep (n' := N2) (g' := g) (by omega) (fun _ _ => rfl)
        rw [h0] at q1
        cases hTb : T (deepS h)
        · rw [hTb] at q2
          have hr : whileL p (fun x => T (deepS x)) least (j + 1) i h = h := by
            rw [whileL, if_neg]
            rintro ⟨_, hx | hx⟩
            · exact hi hx
            · rw [hTb] at hx; cases hx
          rw [hr] at hE
          simp [u_187_0, b_187_0, f2, f3, f4, f5, f6, f10, f11, hc, hb, W.Ho, h0, hi, q1, q2]
          exact hE _ _ _ _ _ _ W0 (by simp) (by simp)
        · rw [hTb] at q2
          obtain ⟨hx, code, he, n1, g1, ow1, cv1, sv1, e1, W1⟩ := i_206 W0 w h0 (by omega)
          obtain ⟨g2, a1, _, W2, _⟩ := W1.root (h' := { hx with code := code }) (off := 4) (x := vi code) rfl (by simp) rfl rfl
          simp at a1
          rw [he] at W2
          have hr : whileL p (fun x => T (deepS x)) least (j + 1) i h = whileL p (fun x => T (deepS x)) least j (i + 1) (stepS p h) := by rw [whileL, if_pos ⟨h0, .inr hTb⟩]
          rw [hr] at hE
          simp [u_187_0, b_187_0, f2, f3, f4, f5, f6, f10, f11, hc, hb, W.Ho, h0, hi, q1, q2, e1, W1.Ho, stH_root, a1, hwr]
          exact ih (i + 1) (by omega) W2 w1 (by omega) hE _ (by simp) (by simp) (by simp) (by simp) (by simp) (by simp [hb]) (by simp)
    · have hr : whileL p (fun x => T (deepS x)) least (j + 1) i h = h := by rw [whileL, if_neg (fun hx => h0 hx.1)]
      rw [hr] at hE
      simp [u_187_0, b_187_0, f2, f3, f4, f5, f6, f10, f11, hc, hb, W.Ho, h0]
      exact hE _ _ _ _ _ _ W (by simp) (by simp)
end
end Go.Ai
set_option linter.unusedSimpArgs false
set_option linter.unusedVariables false
namespace Go.Ai
attribute [local simp] cnd_ite gS_ite callBy_whole
theorem appV_ni {z b : Nat} {x v : AVal} {ns : Obj'} {G G' : AG} (h : appV z b x (.list ns) G = some (v, G')) (hg : noImmO G.obj) (hn : ∀ e ∈ ns, ∀ c ∈ e, noImm c = true) : noImmO G'.obj := by
  simp only [appV, srcOf, Option.bind_some] at h
  split at h
  rotate_left
  · cases h
  cases x <;> first | (cases h; done) | skip
  · dsimp only at h
    split at h
    · injection h with h; injection h with _ h; subst h; exact hg
    · split at h
      · injection h with h; injection h with _ h; subst h; exact ni_upd hg hn
      · cases h
  · rename_i id off len
    cases off with
    | succ => cases h
    | zero =>
      simp only [Option.bind_eq_some_iff] at h
      obtain ⟨es, he, h⟩ := h
      split at h
      · injection h with h; injection h with _ h; subst h
        refine ni_upd (ni_none hg) (fun e hm c hc => ?_)
        rcases List.mem_append.1 hm with hm | hm
        · exact hg id es he e hm c hc
        · exact hn e hm c hc
      · cases h
section
variable {mt : Nat → Nat → Option Nat}
theorem ni_noObj : noImmO noObj := by intro id es h; cases h
theorem ni_ovr {g h : Heap'} (h1 : noImmO g) (h2 : noImmO h) : noImmO (ovr g h) := by
  intro id es he e hm c hc
  simp only [ovr] at he
  cases hh : h id with
  | some es' => rw [hh] at he; injection he with he; subst he; exact h2 id es' hh e hm c hc
  | none => rw [hh] at he; exact h1 id es he e hm c hc
theorem i_49n (c : GCall) (hl : c.temps.length ≤ 2097152 ∧ c.stack.length ≤ 2097152) (k : Nat) {r : AVal} {G' : AG} (h : run AP mt 49 [aCall c] ⟨k, noObj⟩ = some (r, G')) : noImmO G'.obj := by
  obtain ⟨v1, n1, g1, a1, a2⟩ := call_48 (mt := mt) (a := lVal c.temps) hl.1 (n := k) (g := noObj) rfl
  have F1 := a2.fl (Nat.le_refl _) (fun _ _ => rfl)
  obtain ⟨v2, n2, g2, b1, b2⟩ := call_48 (mt := mt) (a := lVal c.stack) hl.2 (n := n1) (g := g1) rfl
  have hb := b2.own (fun _ => none) []
  have ha := a2.own (fun _ => none) []
  have k1 := F1.ok
  have k2 := ok1_list hb.2.2.1
  rw [run_evS AP_49 _ _ rfl] at h
  simp [c_49, a1, b1, k1.k, k1.g, k1.p, k1.c, k2.k, k2.g, k2.p, k2.c] at h
  rw [← h.2]
  exact hb.2.2.2.2 (ha.2.2.2.2 ni_noObj)
/-- A heap that is answered; nothing in memory is read only. -/
def OutHm (k : Nat) (h : GHeap) (x : R) : Prop := ∃ cv sv m g, x = some (.agg [cv, vi h.now, vi h.born, sv, vi h.code], ⟨m, g⟩) ∧ FlH k m h cv sv g ∧ noImmO g
theorem i_157n (h : GHeap) (hh : ShH h) (k : Nat) : OutHm k h (run AP mt 157 [aHeap h] ⟨k, noObj⟩) := by
  have hl := hh.l
  rw [run_evS AP_157 _ _ rfl]
  simp [c_157]
  refine loop_for (OutHm k h) h.calls.length (fun i (v : AVal) => upd (upd (upd (upd (upd (upd fr0 9 (vi i)) 8 (vi h.calls.length)) 7 (lCall h.calls)) 3 v) 2 (.pbox [.nils, vi 0, vi 0, .nils, vi 0])) 1 (.pbox [lCall h.calls, vi h.now, vi h.born, lVal h.said, vi h.code]))
    (fun i v G => FlC k G.next (h.calls.take i) v G.obj ∧ noImmO G.obj) (fun _ _ _ => u_157_0) ?_ ?_ h.calls.length 0 .nils ⟨k, noObj⟩ (by omega) ⟨⟨Nat.le_refl _, fun _ _ => rfl, fun A => ⟨fun _ => none, .nil _, fun id s h => (by cases h)⟩⟩, ni_noObj⟩
  · rintro v ⟨m, g⟩ ⟨hF, hni⟩
    rw [List.take_length] at hF
    have hc : ¬ ((h.calls.length : Int) < h.calls.length) := by omega
    have k1 := hF.ok
    obtain ⟨sv, n', g', a1, a2⟩ := call_48 (mt := mt) (a := lVal h.said) hh.s (n := m) (g := g) rfl
    have k2 := ok1_list (a2.own (fun _ => none) []).2.2.1
    simp [b_157_0, hc, a1, k1.k, k1.g, k1.p, k1.c, k2.k, k2.g, k2.p, k2.c]
    exact ⟨v, sv, n', g', rfl, hF.heap a2, (a2.own (fun _ => none) []).2.2.2.2 hni⟩
  · rintro i v ⟨m, g⟩ hi ⟨hF, hni⟩ next
    have hc : (i : Int) < h.calls.length := by omega
    have hwr : IntKind.i64.wrap ((i : Int) + 1) = (i : Int) + 1 := wrap_id (by omega) (by omega)
    obtain ⟨c, hcc⟩ : ∃ c, h.calls[i]? = some c := ⟨_, List.getElem?_eq_getElem hi⟩
    have hcl := hh.c c (List.mem_of_getElem? hcc)
    have hix := fun g => idx_ok (g := g) (k := .i64) (w_Call h.calls) (show (0:Int) ≤ i by omega) (by simpa using hc)
    obtain ⟨tv, kv, n1, g1, hcall⟩ := OutC.mk (mt := mt) (snap := false) (f := 49) (as := [aCall c]) (as' := [aCall c]) (G := ⟨m, g⟩) rfl (i_49 (mt := mt) c hcl m)
    obtain ⟨a1, a2, k2, k3⟩ := hcall (.inl rfl)
    have hn1 : noImmO g1 := by
      have ha1 := a1
      unfold callBy at ha1
      simp only [Option.bind_eq_some_iff] at ha1
      obtain ⟨as', h1, r, h2, h3⟩ := ha1
      have has : as' = [aCall c] := by
        have : frzs noObj [aCall c] = some [aCall c] := rfl
        simp only [Bool.false_eq_true, if_false] at h1
        rw [this] at h1; injection h1 with h1; exact h1.symm
      subst has
      have hr := i_49n (mt := mt) c hcl m h2
      split at h3
      · simp only [Bool.false_eq_true, if_false, true_or, if_true] at h3
        injection h3 with h3
        injection h3 with _ h3
        injection h3 with _ h3
        rw [← h3]
        exact ni_ovr hni hr
      · cases h3
    obtain ⟨g2, b1, b2⟩ := hF.one a2 (by simp; omega)
    have hlen : (h.calls.take i).length = i := by rw [List.length_take]; omega
    rw [hlen] at b1 b2
    have k1 := hF.ok
    have hn2 : noImmO g2 := by
      obtain ⟨ox, o1, o2, _⟩ := a2.own []
      exact appV_ni b1 hn1 (fun e he x hx => by
        rw [List.mem_singleton] at he; subst he
        simp only [List.mem_cons, List.not_mem_nil, or_false] at hx
        rcases hx with rfl | rfl | rfl | rfl | rfl | rfl
        · rfl
        · rfl
        · exact own_ni o1
        · exact own_ni o2
        · rfl
        · rfl)
    simp [b_157_0, hc, hix, hcc, hwr, a1, b1, k1.k, k1.g, k1.p, k1.c, k2.k, k2.g, k2.p, k2.c, k3.k, k3.g, k3.p, k3.c]
    have ht : h.calls.take (i + 1) = h.calls.take i ++ [c] := by rw [List.take_add_one, hcc]; rfl
    simpa using next (.slice n1 0 (i + 1)) ⟨n1 + 1, g2⟩ ⟨by rw [ht]; exact b2, hn2⟩
/-- A heap copied into a memory. -/
theorem call_157 (h : GHeap) (hh : ShH h) (n : Nat) (g : Heap') (hg : noImmO g) : ∃ cv sv n1 g1, callBy (run AP mt) (.alone false false) 157 [aHeap h] ⟨n, g⟩ = some (.agg [cv, vi h.now, vi h.born, sv, vi h.code], ⟨n1, g1⟩) ∧ n ≤ n1 ∧ (∀ id, id < n → g1 id = g id) ∧ noImmO g1 ∧ Ok1 cv ∧ Ok1 sv ∧
    ∀ A B : List Nat, ∃ ow, Own g1 ow A (lCall h.calls) cv ∧ Own g1 ow B (lVal h.said) sv ∧ ∀ id s, ow id = some s → n ≤ id ∧ id < n1 ∧ (A <+: s ∨ B <+: s) := by
  obtain ⟨cv, sv, m, g1, a1, a2, a3⟩ := i_157n (mt := mt) h hh n
  obtain ⟨ow, b1, b2, _⟩ := a2.own [] []
  refine ⟨cv, sv, m, ovr g g1, ?_, a2.le, fun id hid => ovr_none (a2.z id hid), ni_ovr hg a3, ok1_list b1, ok1_list b2, fun A B => ?_⟩
  · have hf : frzs noObj [aHeap h] = some [aHeap h] := rfl
    unfold callBy
    simp [hf, a1, a2.le]
  · obtain ⟨ow, c1, c2, c3⟩ := a2.own A B
    have K : Keep g1 ow (ovr g g1) ow (fun _ _ => True) := fun id q hid _ => ⟨fun e he => ovr_some he, hid⟩
    exact ⟨ow, c1.mono (K.mono fun _ _ _ _ => trivial), c2.mono (K.mono fun _ _ _ _ => trivial), c3⟩
end
end Go.Ai
set_option linter.unusedSimpArgs false
set_option linter.unusedVariables false
namespace Go.Ai
attribute [local simp] cnd_ite gS_ite callBy_whole
theorem whileL_0 (p : GProg) (C : GHeap → Bool) : ∀ (j i : Nat) (h : GHeap) (least : Int), least ≤ i → whileL p C least j i h = whileS p C j h := by
  intro j
  induction j with
  | zero => intro i h least hl; rfl
  | succ j ih =>
    intro i h least hl
    unfold whileL whileS
    by_cases hc : h.code = 0 ∧ C h = true
    · rw [if_pos ⟨hc.1, .inr hc.2⟩, if_pos hc, ih _ _ _ (by omega)]
    · rw [if_neg (fun hx => hc ⟨hx.1, hx.2.resolve_left (by omega)⟩), if_neg hc]
/-- A heap that is answered, owned; nothing in memory is read only. -/
def OutHB (k : Nat) (A B : List Nat) (h : GHeap) (F : AVal → AVal) (x : R) : Prop := ∃ cv sv m g ow, x = some (F (.agg [cv, vi h.now, vi h.born, sv, vi h.code]), ⟨m, g⟩) ∧ k ≤ m ∧ Own g ow A (lCall h.calls) cv ∧ Own g ow B (lVal h.said) sv ∧
  (∀ id q, ow id = some q → k ≤ id ∧ id < m ∧ (A <+: q ∨ B <+: q)) ∧ (∀ id, id < k → g id = none) ∧ noImmO g
section
variable {k : Nat} {Z : Heap'} {A B : List Nat} {p : GProg} {h : GHeap} {g : Heap'} {ow : Ow} {cv sv : AVal}
/-- A whole run of overHeap leaves such a heap. -/
def Over (k : Nat) (Z : Heap') (A B : List Nat) (h : GHeap) (x : R) : Prop := ∃ cv sv n g ow o, x = some (.agg [cv, vi h.now, vi h.born, sv, vi h.code], ⟨n, g⟩) ∧ HW k Z A B [] o h n g ow cv sv
theorem i_187 {n : Nat} (hk : k ≤ n) (hz : ∀ id, id < k → g id = Z id) (F : ∃ ow, Own g ow A (lCall h.calls) cv ∧ Own g ow B (lVal h.said) sv ∧ ∀ id s, ow id = some s → k ≤ id ∧ id < n ∧ (A <+: s ∨ B <+: s)) (dj : ∀ s, A <+: s → ¬ B <+: s) (hni : noImmO g)
    {l : List Int} (w : WF p h l) (hs : h.said.length ≤ 2097152) (least : Int) (most : Nat) (hst : most ≤ 400) (f cid : Nat) (did : Int) (hc : cid < k) (hZ : Z cid = some [[vi did]]) (T : Int → Bool) (hT : ∀ x k, Gv k (.bool (T x)) (run AP MT f [vi x, .iptr [[vi did]] 0 0] ⟨k, noObj⟩)) :
    Over k Z A B (whileL p (fun x => T (deepS x)) least most 0 h) (run AP MT 187 [aProg p, .agg [cv, vi h.now, vi h.born, sv, vi h.code], vi least, vi most, .func f [.ptr cid 0 0]] ⟨n, g⟩) := by
  obtain ⟨ow, W⟩ := HW.new hk hz F dj [] (fun _ => hni)
  obtain ⟨ow', b1, b2, _⟩ := F
  have k1 := ok1_list b1
  have k2 := ok1_list b2
  simp only [List.nil_append] at W
  rw [run_evS AP_187 _ _ rfl]
  simp [c_187, k1.k, k1.g, k1.p, k1.c, k2.k, k2.g, k2.p, k2.c]
  refine loop_187 (P := Over k Z A B (whileL p (fun x => T (deepS x)) least most 0 h)) _ least most hst f cid did hc hZ T hT (.pbox [.nils, vi 0, vi 0, .nils, vi 0]) rfl most 0 (by omega) W w (by omega) (fun n2 g2 ow2 cv2 sv2 fr W2 f6 f10 => ?_) _ (by simp) (by simp) (by simp) (by simp) (by simp) (by simp) (by simp)
  simp [f6, f10, W2.Ho, (ok1_list W2.c).k, (ok1_list W2.c).g, (ok1_list W2.c).p, (ok1_list W2.s).k, (ok1_list W2.s).g, (ok1_list W2.s).p]
  exact ⟨_, _, _, _, _, _, rfl, W2⟩
end
theorem Over.out {k k0 : Nat} {A B : List Nat} {h : GHeap} {Z g : Heap'} {n : Nat} {o : Nat} {ow : Ow} {cv sv : AVal} (W : HW k Z A B [] o h n g ow cv sv) (hk : k0 ≤ k) (hZ : ∀ id, id < k0 → Z id = none) (F : AVal → AVal) : OutHB k0 A B h F (some (F (.agg [cv, vi h.now, vi h.born, sv, vi h.code]), ⟨n, g⟩)) :=
  ⟨cv, sv, n, g, ow, rfl, by have := W.kn; omega, W.c, W.s, fun id q hq => by have := W.f id q hq; exact ⟨by omega, this.2⟩, fun id hid => by rw [W.z id (by omega)]; exact hZ id hid, W.ni rfl⟩
theorem outB_zero (k n : Nat) (hk : k ≤ n) (A B : List Nat) (F : AVal → AVal) : OutHB k A B zeroH F (some (F (.agg [.nils, vi 0, vi 0, .nils, vi 0]), ⟨n, noObj⟩)) :=
  ⟨.nils, .nils, n, noObj, fun _ => none, rfl, hk, .nil _, .nil _, fun id q h => (by cases h), fun _ _ => rfl, ni_noObj⟩
theorem i_173 (p : GProg) (h : GHeap) (most : Int) (hp : ShP p) (hh : ShH h) {A B : List Nat} (dj : ∀ s, A <+: s → ¬ B <+: s) (k : Nat) : OutHB k A B (outR p h most).1 (fun v => .tuple [v, .bool (outR p h most).2]) (run AP MT 173 [aProg p, aHeap h, vi most] ⟨k, noObj⟩) := by
  have q := m_35 (mt := MT) p h hp hh
  rw [heapOk_eq] at q
  have q2 := fun a b c => r_66 (mt := MT) a b c
  have q3 := m_26 (mt := MT) h hh.l
  unfold Q at q q2 q3
  rw [run_evS AP_173 _ _ rfl]
  unfold outR
  by_cases h1 : heapOkS p h = true
  · by_cases h2 : inR most 0 400 = true
    · rw [if_pos ⟨h1, h2⟩]
      have hs := inR_iff.1 h2
      have w := wf_of h1
      generalize hN : nxt AP MT 26 [aHeap h] (nxt AP MT 66 [vi most, vi 0, vi 400] (nxt AP MT 35 [aProg p, aHeap h] k)) = N
      have hkN : k ≤ N := by rw [← hN]; repeat (first | exact Nat.le_refl _ | apply le_nxt)
      have hu : updO (updO noObj N (some [[vi 0]])) N (some [[vi (deepS h)]]) = updO noObj N (some [[vi (deepS h)]]) := by funext t; simp only [updO]; split <;> rfl
      have hni : noImmO (updO noObj N (some [[vi (deepS h)]])) := ni_upd ni_noObj (fun e he c hc => by simp at he; subst he; simp at hc; subst hc; rfl)
      obtain ⟨cv, sv, n1, g1, a1, a2, a3, a4, a5, a6, a7⟩ := call_157 (mt := MT) h hh (N + 1) _ hni
      obtain ⟨cv2, sv2, n2, g2, ow2, o2, b1, W2⟩ := i_187 (k := N + 1) (Z := updO noObj N (some [[vi (deepS h)]])) (p := p) a2 a3 (a7 A B) dj a4 w hh.s 0 most.toNat (by omega) 188 N (deepS h) (by omega) (by simp [updO]) (fun x => decide (deepS h ≤ x)) (fun x k => g_188 x (deepS h) k)
      rw [whileL_0 _ _ _ _ _ _ (by omega)] at b1 W2
      have hC : (fun x => decide (deepS h ≤ deepS x)) = (fun x => decide (deepS h - 1 < deepS x)) := by funext x; rw [decide_eq_decide]; omega
      rw [hC] at b1 W2
      rw [show ((most.toNat : Nat) : Int) = most by omega] at b1
      generalize whileS p (fun x => decide (deepS h - 1 < deepS x)) most.toNat h = X at *
      have kk1 := ok1_list W2.c
      have kk2 := ok1_list W2.s
      simp [c_173, q, q2, h1, h2, q3, hN, stH_root, updO_same, hu, a1, a5.k, a5.g, a5.p, a5.c, a6.k, a6.g, a6.p, a6.c, b1, kk1.k, kk1.g, kk1.p, kk1.c, kk2.k, kk2.g, kk2.p, kk2.c]
      exact Over.out (k0 := k) W2 (by omega) (fun id hid => by simp only [updO]; rw [if_neg (by omega)]; rfl) (fun v => .tuple [v, .bool true])
    · rw [if_neg (fun hc => h2 hc.2)]
      simp [c_173, q, q2, h1, h2]
      exact outB_zero k _ (by repeat (first | exact Nat.le_refl _ | apply le_nxt)) A B (fun v => .tuple [v, .bool false])
  · rw [if_neg (fun hc => h1 hc.1)]
    simp [c_173, q, q2, h1]
    exact outB_zero k _ (by repeat (first | exact Nat.le_refl _ | apply le_nxt)) A B (fun v => .tuple [v, .bool false])
end Go.Ai
set_option linter.unusedSimpArgs false
set_option linter.unusedVariables false
namespace Go.Ai
variable {mt : Nat → Nat → Option Nat}
attribute [local simp] cnd_ite gS_ite callBy_whole
section
variable {H H' : Heap'} {W : Ow}
end
end Go.Ai
set_option linter.unusedSimpArgs false
set_option linter.unusedVariables false
namespace Go.Ai
attribute [local simp] cnd_ite gS_ite callBy_whole
theorem ShH.zero : ShH zeroH := ⟨by simp [zeroH], fun c hc => by simp [zeroH] at hc, by simp [zeroH]⟩
/-- What HeapOut answers is short. -/
theorem while_said {p : GProg} {C : GHeap → Bool} : ∀ (f : Nat) {h : GHeap} {l : List Int}, WF p h l → (whileS p C f h).said.length ≤ h.said.length + f := by
  intro f
  induction f with
  | zero => intro h l w; exact Nat.le_refl _
  | succ f ih =>
    intro h l w
    unfold whileS
    split
    · rename_i hc
      obtain ⟨l', w'⟩ := step_wf w (w.run0 hc.1)
      have := ih w'
      have := step_said w (w.run0 hc.1)
      omega
    · omega
theorem outR_sh (p : GProg) (h : GHeap) (most : Int) (hs : h.said.length ≤ 1048576) : ShH (outR p h most).1 := by
  unfold outR
  by_cases hc : heapOkS p h = true ∧ inR most 0 400 = true
  · rw [if_pos hc]
    have hm := inR_iff.1 hc.2
    obtain ⟨l', w'⟩ := while_wf (C := fun x => decide (deepS h - 1 < deepS x)) most.toNat (wf_of hc.1)
    have := while_said (C := fun x => decide (deepS h - 1 < deepS x)) most.toNat (wf_of hc.1)
    exact w'.sh (by omega)
  · rw [if_neg hc]; exact ShH.zero
end Go.Ai
