/- The specification's heap at work: what is looked at, and the way back. The specification's heap at work: the way back to a call. The specification's heap at work: an operation is done. The specification's heap at work: a step. A heap anew: lists of rows that grow, each row with lists of its own. What is said grows by one at most. Runs. -/
import Derived.Test.YtffliemhdjcflaaD1
import Derived.Test.YtffliemhdjcflaaD2
set_option linter.unusedSimpArgs false
set_option linter.unusedVariables false
namespace Go.Ai
variable {mt : Nat → Nat → Option Nat}
attribute [local simp] cnd_ite gS_ite callBy_whole
theorem own_idx {g : Heap'} {ow : Ow} {q : List Nat} {l : List GVal} {v : AVal} (h : Own g ow q (lVal l) v) {a : Int} (h0 : 0 ≤ a) (h1 : a < l.length) : ∃ ti x, idxV 2 v (.int .i64 a) g = some (.ptr ti a.toNat 0) ∧ g ti = some (l.map eVal) ∧ l[a.toNat]? = some x := by
  rcases h.flat (sVal l) with ⟨e, _⟩ | ⟨hne, id, rfl, hw, hg⟩
  · have := List.map_eq_nil_iff.1 e; rw [this] at h1; simp at h1; omega
  · obtain ⟨x, hx⟩ : ∃ x, l[a.toNat]? = some x := ⟨_, List.getElem?_eq_getElem (by omega)⟩
    refine ⟨id, x, ?_, hg, hx⟩
    have := idx_slice (z := 2) (off := 0) (len := (l.map eVal).length) (k := .i64) (es := l.map eVal) (e := eVal x) h0 (by simpa using h1) hg (by simp [hx]) rfl
    rw [this]; simp
section
variable {k n : Nat} {Z : Heap'} {A B : List Nat} {p : GProg} {o : Nat} {h : GHeap} {g : Heap'} {ow : Ow} {cv sv : AVal}
variable {ci : Nat} {es : Obj'} {j : Nat} {c : GCall} {tv kv : AVal}
theorem own_len {g : Heap'} {ow : Ow} {q : List Nat} {es : Obj'} {v : AVal} (h : Own g ow q (.list es) v) : lenV v = some (.int .i64 es.length) := by
  rcases h.list_inv with ⟨e, rfl⟩ | ⟨_, id, es0, rfl, _⟩
  · rw [e]; rfl
  · rfl
theorem s_131 (V : VW k Z A B (preS p) o h n g ow ci es sv j c tv kv) (op : GOp) (x : Int) (h0 : 0 ≤ x) (hj : x.toNat = j) (ha : op.kind = 13 → 0 ≤ op.a) : ∃ n', n ≤ n' ∧ run AP mt 131 [.ptr o 0 0, aOp op, vi x] ⟨n, g⟩ = some (aVal (lookS h op x), ⟨n', g⟩) := by
  have q1 := fun x => s_128 (mt := mt) x
  have q2 := fun x => s_139 (mt := mt) x
  unfold Q at q1 q2
  have hc : h.calls[x.toNat]? = some c := by rw [hj]; exact V.hj
  have hl := own_len V.t
  have ht := ok1_list V.t
  rw [run_evS AP_131 _ _ rfl]
  unfold lookS
  simp only [hc]
  by_cases h12 : op.kind = 12
  · by_cases hs : 0 ≤ c.sender
    · simp [c_131, h12, V.W.Ho, V.ix h0 hj, V.Hc, V.He, hs]
    · simp [c_131, h12, V.W.Ho, V.ix h0 hj, V.Hc, V.He, hs, v0]
  · by_cases h13 : op.kind = 13
    · by_cases hs : op.a < c.temps.length
      · obtain ⟨ti, y, e1, e2, e3⟩ := own_idx V.t (ha h13) hs
        simp [-lenV, c_131, h13, V.W.Ho, V.ix h0 hj, V.Hc, V.He, hs, hl, ht.k, ht.g, ht.p, e1, e2, e3]
      · simp [-lenV, c_131, h13, V.W.Ho, V.ix h0 hj, V.Hc, V.He, hs, hl, ht.k, ht.g, ht.p, v0]
    · by_cases h17 : op.kind = 17
      · simp [c_131, h17, V.W.Ho, V.ix h0 hj, V.Hc, V.He, q2]
        repeat (first | exact Nat.le_refl _ | apply le_nxt)
      · by_cases h18 : op.kind = 18
        · simp [c_131, h18, V.W.Ho, V.ix h0 hj, V.Hc, V.He, q1]
          repeat (first | exact Nat.le_refl _ | apply le_nxt)
        · simp [c_131, h12, h13, h17, h18, V.W.Ho, V.ix h0 hj, V.Hc, V.He, v0]
end
end Go.Ai
set_option linter.unusedSimpArgs false
set_option linter.unusedVariables false
namespace Go.Ai
variable {mt : Nat → Nat → Option Nat}
attribute [local simp] cnd_ite gS_ite callBy_whole
section
variable {k n : Nat} {Z : Heap'} {A B : List Nat} {p : GProg} {o : Nat} {h : GHeap} {g : Heap'} {ow : Ow} {cv sv : AVal}
variable {ci : Nat} {es : Obj'} {j : Nat} {c : GCall} {tv kv : AVal}
theorem loop_132 (P : R → Prop) (S : List KF) (to : Int) (b : AVal) (hb : Ai.kv b = b) : ∀ (f : Nat) {h : GHeap} {l : List Int} {n : Nat} {g : Heap'} {ow : Ow} {cv sv : AVal}, HW k Z A B (preS p) o h n g ow cv sv → WF p h l → to ∈ l → l.length ≤ f + 1 →
    (∀ n' g' ow' cv' sv' fr, HW k Z A B (preS p) o (unwS f h to) n' g' ow' cv' sv' → fr 0 = .ptr o 0 0 → fr 5 = b → P (unw AP mt (.exit 0) fr ⟨n', g'⟩ S)) →
    ∀ fr : Fr, fr 0 = .ptr o 0 0 → fr 1 = vi to → fr 5 = b → P (evS AP mt (.loop l_132_0) fr ⟨n, g⟩ S) := by
  intro f
  induction f with
  | zero =>
    intro h l n g ow cv sv W w hto hl hE fr f0 f1 f5
    obtain ⟨_, _, hnow, _⟩ := unw_wf 0 w hto hl
    have hnow : h.now = to := hnow
    rw [S_loop]
    simp [u_132_0, b_132_0, W.Ho, hnow, hb, f0, f1, f5]
    exact hE _ _ _ _ _ _ W (by simp) (by simp [hb])
  | succ f ih =>
    intro h l n g ow cv sv W w hto hl hE fr f0 f1 f5
    have h0 : 0 ≤ h.now := by
      cases w.up with
      | nil => cases hto
      | cons h0 => exact h0
    obtain ⟨c, m, l', rfl, hc, hd, ht, fr, hn⟩ := w.head h0
    rw [S_loop]
    by_cases he : h.now = to
    · simp [u_132_0, b_132_0, W.Ho, he, hb, f0, f1, f5]
      refine hE n g ow cv sv _ ?_ (by simp) (by simp [hb])
      unfold unwS
      rw [if_pos he]
      exact W
    · have hto' : to ∈ l' := by
        rcases List.mem_cons.1 hto with e | e
        · exact absurd e.symm he
        · exact e
      have hs : 0 ≤ c.sender := by cases ht with
        | nil => cases hto'
        | cons h0 => exact h0
      have wl := w.leave h0 (fun c' hc' => by rw [hc] at hc'; injection hc' with e; subst e; exact hs)
      simp only [List.drop_one, List.tail_cons] at wl
      obtain ⟨ci, es, tv, kv, rfl, V⟩ := W.view hc
      have h116 := s_116 (mt := mt) V h0 rfl
      obtain ⟨g1, a1, _, V1⟩ := V.root (h' := { h with now := c.sender }) (off := 2) (x := vi c.sender) rfl (by simp) rfl rfl
      simp at a1
      obtain ⟨ow2, es2, g2, a2, V2⟩ := s_140 (mt := mt) V1 h.now h0 rfl
      have hle : setC { h with now := c.sender } h.now.toNat (deadC c) = leaveS h := by rw [leave_eq hc]; rfl
      rw [hle] at V2
      have hun : unwS (f + 1) h to = unwS f (leaveS h) to := by rw [unwS, if_neg he]
      rw [hun] at hE
      simp [u_132_0, b_132_0, V.W.Ho, he, hb, f0, f1, f5, h116, V.Hc, V.He, stH_root, a1, a2]
      exact ih V2.W wl hto' (by simpa using hl) hE _ (by simp) (by simp) (by simp [hb])
theorem s_132 (W : HW k Z A B (preS p) o h n g ow cv sv) {l : List Int} (w : WF p h l) (h0 : 0 ≤ h.now) (to : Int) (ht : 0 ≤ to ∧ to < h.calls.length) (v : GVal) : To k Z A B (preS p) o (backS h to v) (.tuple []) (run AP mt 132 [.ptr o 0 0, vi to, aVal v] ⟨n, g⟩) := by
  obtain ⟨c, hc⟩ : ∃ c, h.calls[to.toNat]? = some c := ⟨_, List.getElem?_eq_getElem (by omega)⟩
  obtain ⟨ci, es, tv, kv, rfl, V⟩ := W.view hc
  have hda : deadAt h to = c.dead := by unfold deadAt; rw [hc]
  rw [run_evS AP_132 _ _ rfl]
  unfold backS
  rw [hda]
  cases hd : c.dead
  · have hto : to ∈ l := by
      have := w.al to.toNat c hc hd
      rwa [show ((to.toNat : Nat) : Int) = to by omega] at this
    have hll := up_len w.up
    obtain ⟨l2, a1, a2, a3, a4, a5, a6, _⟩ := unw_wf h.calls.length w hto (by omega)
    have He := V.He
    rw [hd] at He
    simp [c_132, V.W.Ho, V.ix ht.1 rfl, V.Hc, He]
    refine loop_132 (mt := mt) _ _ to (.pbox [vi v.kind, vi v.num]) rfl h.calls.length W w hto (by omega) (fun n1 g1 ow1 cv1 sv1 fr1 W1 f0 f5 => ?_) _ (by simp) (by simp) (by simp)
    obtain ⟨ci1, es1, tv1, kv1, rfl, V1⟩ := W1.view (j := (unwS h.calls.length h to).now.toNat) (c := c) (by rw [a2, a4, hc])
    have h116 := s_116 (mt := mt) V1 (by rw [a2]; exact ht.1) rfl
    obtain ⟨m, fr⟩ := w.frm hc
    obtain ⟨g2, b1, b2, b3, g3, es3, ow3, kv3, b4, b5, V3⟩ := V1.push (by have := fr.sl; omega) v
    have hk := ok1_list V1.s
    rw [push_eq (c := c) (by rw [a2, a4, hc])]
    simp [h116, f0, f5, V1.Hc, V1.He, b1, b2, b4, b5, hk.k, hk.g, hk.p]
    exact ⟨_, _, _, _, _, rfl, V3.W⟩
  · obtain ⟨g1, b1, _, V1⟩ := V.root (h' := { h with code := 2 }) (off := 5) (x := vi 2) rfl (by simp) rfl rfl
    simp at b1
    have He := V.He
    rw [hd] at He
    simp [c_132, V.W.Ho, V.ix ht.1 rfl, V.Hc, He, stH_root, b1]
    exact ⟨_, _, _, _, _, rfl, V1.W⟩
end
end Go.Ai
set_option linter.unusedSimpArgs false
set_option linter.unusedVariables false
namespace Go.Ai
variable {mt : Nat → Nat → Option Nat}
attribute [local simp] cnd_ite gS_ite callBy_whole
theorem takes_nil {p : GProg} (hp : progOk p = true) (op : GOp) : (takesS [] op).1 ≤ (takesS p op).1 := by
  by_cases h9 : op.kind = 9
  · have := (takes_nn hp op).1
    have e : takesS [] op = (0, 0) := by simp [takesS, h9]
    rw [e]; exact this
  · have e : takesS [] op = takesS p op := by simp [takesS, h9]
    rw [e]; exact Int.le_refl _
section
variable {k n : Nat} {Z : Heap'} {A B : List Nat} {p : GProg} {o : Nat} {h : GHeap} {g : Heap'} {ow : Ow} {cv sv : AVal}
variable {ci : Nat} {es : Obj'} {j : Nat} {c : GCall} {tv kv : AVal} {op : GOp} {as : List GVal} {l : List Int} {m : GMethod}
theorem q_127 (d : Din p op as h l c m) : Q mt 127 [aOp op, lVal as] (mkMade (madeS op as)) := by
  refine s_127 (mt := mt) op as (by have := takes_nil d.w.prog op; have := d.al; omega) (fun hk => ?_)
  have h1 := valOk_iff.1 (d.arg (i := 0) (by simp [takesS, hk])).1
  have h2 := valOk_iff.1 (d.arg (i := 1) (by simp [takesS, hk])).1
  have hkk := d.kinds
  unfold kindsS at hkk
  simp only [if_pos hk, Bool.and_eq_true, decide_eq_true_eq] at hkk
  omega
/-- What an operation makes of its values alone is put on the stack. -/
theorem s_119m (V : VW k Z A B (preS p) o h n g ow ci es sv h.now.toNat c tv kv) (d : Din p op as h l c m) {v : GVal} (hv : madeS op as = some v) : To k Z A B (preS p) o (pushS h v) (.tuple []) (run AP mt 119 [.ptr o 0 0, aOp op, lVal as] ⟨n, g⟩) := by
  have q := q_127 (mt := mt) d
  rw [hv] at q
  unfold Q mkMade at q
  dsimp only at q
  have h116 := s_116 (mt := mt) V d.h0 rfl
  have V1 := V.keep (n' := nxt AP mt 127 [aOp op, lVal as] n) (g' := g) nxt_le (fun _ _ => rfl)
  obtain ⟨g1, b1, b2, b3, g2, es2, ow2, kv2, b4, b5, V2⟩ := V1.push (by have := d.f.sl; omega) v
  have hk := ok1_list V.s
  rw [push_eq d.hc, run_evS AP_119 _ _ rfl]
  simp [c_119, h116, q, V.Hc, V.He, b1, b2, b4, b5, hk.k, hk.g, hk.p]
  exact ⟨_, _, _, _, _, rfl, V2.W⟩
theorem q127n (d : Din p op as h l c m) (hm : ¬ (op.kind = 1 ∨ op.kind = 5 ∨ op.kind = 6)) (n : Nat) (g : Heap') : ∃ N, n ≤ N ∧ callBy (run AP mt) (.alone false true) 127 [.agg [vi op.kind, vi op.a], lVal as] ⟨n, g⟩ = some (.tuple [.agg [vi 0, vi 0], .bool false], ⟨N, g⟩) := by
  have q := q_127 (mt := mt) d
  have hmd : madeS op as = none := by unfold madeS; rw [if_neg (by omega), if_neg (by omega), if_neg (by omega)]
  rw [hmd] at q
  unfold Q mkMade at q
  exact ⟨_, nxt_le, q ⟨n, g⟩⟩
theorem s_119_2 {a : Int} (V : VW k Z A B (preS p) o h n g ow ci es sv h.now.toNat c tv kv) (d : Din p ⟨2, a⟩ as h l c m) (hs : h.said.length ≤ 4294967296) : To k Z A B (preS p) o (doS p ⟨2, a⟩ as h) (.tuple []) (run AP mt 119 [.ptr o 0 0, aOp ⟨2, a⟩, lVal as] ⟨n, g⟩) := by
  have h116 := s_116 (mt := mt) V d.h0 rfl
  obtain ⟨N, hN, q⟩ := q127n (mt := mt) d (by simp) n g
  dsimp only at q
  have V1 := V.keep (n' := N) (g' := g) hN (fun _ _ => rfl)
  have hk0 := ok1_list V.s
  rw [doS_2 rfl, run_evS AP_119 _ _ rfl]
  have ha := d.op2 (.inl rfl)
  obtain ⟨ti, x, e1, e2, e3⟩ := own_idx V.t ha.1 ha.2
  have ht : tempAt h a = x := by unfold tempAt; rw [d.hc]; simp [e3]
  obtain ⟨g1, b1, b2, b3, g2, es2, ow2, kv2, b4, b5, V2⟩ := V1.push (by have := d.f.sl; omega) x
  have htv := ok1_list V.t
  dsimp only
  rw [ht, push_eq d.hc]
  simp [c_119, h116, q, V.Hc, V.He, e1, e2, e3, b1, b2, b4, b5, hk0.k, hk0.g, hk0.p, htv.k, htv.g, htv.p]
  exact ⟨_, _, _, _, _, rfl, V2.W⟩
theorem s_119_3 {a : Int} (V : VW k Z A B (preS p) o h n g ow ci es sv h.now.toNat c tv kv) (d : Din p ⟨3, a⟩ as h l c m) (hs : h.said.length ≤ 4294967296) : To k Z A B (preS p) o (doS p ⟨3, a⟩ as h) (.tuple []) (run AP mt 119 [.ptr o 0 0, aOp ⟨3, a⟩, lVal as] ⟨n, g⟩) := by
  have h116 := s_116 (mt := mt) V d.h0 rfl
  obtain ⟨N, hN, q⟩ := q127n (mt := mt) d (by simp) n g
  dsimp only at q
  have V1 := V.keep (n' := N) (g' := g) hN (fun _ _ => rfl)
  have hk0 := ok1_list V.s
  have hi0 := idx_arg as 0 (by have := d.al; simp [takesS] at this; omega)
  obtain ⟨hv0, ha0⟩ := d.arg (i := 0) (by simp [takesS])
  simp at hi0
  rw [doS_3 rfl, run_evS AP_119 _ _ rfl]
  have ha := d.op2 (.inr rfl)
  dsimp only at ha
  obtain ⟨ti, ts, rfl, e2, rfl, g1, e3, V2⟩ := V1.temp a.toNat (by omega) (arg as 0)
  have hti : (c.temps.map eVal)[a.toNat]? = some (eVal (c.temps[a.toNat]'(by omega))) := by rw [List.getElem?_map, List.getElem?_eq_getElem (by omega)]; rfl
  have ei := idx_slice (z := 2) (off := 0) (len := c.temps.length) (k := .i64) (n := a) ha.1 (by omega) e2 (by rw [Nat.zero_add]; exact hti) rfl
  simp at ei
  have hst : stH 2 a.toNat 0 [vi (arg as 0).kind, vi (arg as 0).num] (some (c.temps.map eVal)) = some ((c.temps.map eVal).set a.toNat [vi (arg as 0).kind, vi (arg as 0).num]) := stH_ok hti ⟨rfl, by simp⟩
  have hT : setT h h.now.toNat a.toNat (arg as 0) = setC h h.now.toNat { c with temps := c.temps.set a.toNat (arg as 0) } := by unfold setT; rw [d.hc]; simp only []; rw [if_pos (by omega)]
  dsimp only
  rw [hT]
  simp [c_119, h116, q, V.Hc, V.He, hi0, ha0, ei, e2, hst, e3]
  exact ⟨_, _, _, _, _, rfl, V2.W⟩
theorem s_119_4 {a : Int} (V : VW k Z A B (preS p) o h n g ow ci es sv h.now.toNat c tv kv) (d : Din p ⟨4, a⟩ as h l c m) (hs : h.said.length ≤ 4294967296) : To k Z A B (preS p) o (doS p ⟨4, a⟩ as h) (.tuple []) (run AP mt 119 [.ptr o 0 0, aOp ⟨4, a⟩, lVal as] ⟨n, g⟩) := by
  have h116 := s_116 (mt := mt) V d.h0 rfl
  obtain ⟨N, hN, q⟩ := q127n (mt := mt) d (by simp) n g
  dsimp only at q
  have V1 := V.keep (n' := N) (g' := g) hN (fun _ _ => rfl)
  have hk0 := ok1_list V.s
  rw [doS_4 rfl, run_evS AP_119 _ _ rfl]
  simp [c_119, h116, q, V.Hc, V.He]
  exact ⟨_, _, _, _, _, rfl, V1.W⟩
theorem s_119_7 {a : Int} (V : VW k Z A B (preS p) o h n g ow ci es sv h.now.toNat c tv kv) (d : Din p ⟨7, a⟩ as h l c m) (hs : h.said.length ≤ 4294967296) : To k Z A B (preS p) o (doS p ⟨7, a⟩ as h) (.tuple []) (run AP mt 119 [.ptr o 0 0, aOp ⟨7, a⟩, lVal as] ⟨n, g⟩) := by
  have h116 := s_116 (mt := mt) V d.h0 rfl
  obtain ⟨N, hN, q⟩ := q127n (mt := mt) d (by simp) n g
  dsimp only at q
  have V1 := V.keep (n' := N) (g' := g) hN (fun _ _ => rfl)
  have hk0 := ok1_list V.s
  rw [doS_7 rfl, run_evS AP_119 _ _ rfl]
  obtain ⟨g1, es1, e1, e2, V2⟩ := V1.row { c with pc := a } kv (off := 1) (x := vi a) rfl (by omega) rfl V1.s
  have hP : setPc h a = setC h h.now.toNat { c with pc := a } := by unfold setPc; rw [d.hc]
  dsimp only
  rw [hP]
  simp [c_119, h116, q, V.Hc, V.He, e1, e2]
  exact ⟨_, _, _, _, _, rfl, V2.W⟩
theorem s_119_8 {a : Int} (V : VW k Z A B (preS p) o h n g ow ci es sv h.now.toNat c tv kv) (d : Din p ⟨8, a⟩ as h l c m) (hs : h.said.length ≤ 4294967296) : To k Z A B (preS p) o (doS p ⟨8, a⟩ as h) (.tuple []) (run AP mt 119 [.ptr o 0 0, aOp ⟨8, a⟩, lVal as] ⟨n, g⟩) := by
  have h116 := s_116 (mt := mt) V d.h0 rfl
  obtain ⟨N, hN, q⟩ := q127n (mt := mt) d (by simp) n g
  dsimp only at q
  have V1 := V.keep (n' := N) (g' := g) hN (fun _ _ => rfl)
  have hk0 := ok1_list V.s
  have hi0 := idx_arg as 0 (by have := d.al; simp [takesS] at this; omega)
  obtain ⟨hv0, ha0⟩ := d.arg (i := 0) (by simp [takesS])
  simp at hi0
  rw [doS_8 rfl, run_evS AP_119 _ _ rfl]
  have q1 := fun x => s_128 (mt := mt) x
  unfold Q at q1
  have hP : setPc h a = setC h h.now.toNat { c with pc := a } := by unfold setPc; rw [d.hc]
  have hz : (arg as 0 = numV 0) ↔ (arg as 0).kind = 1 ∧ (arg as 0).num = 0 := by
    constructor
    · intro e; rw [e]; exact ⟨rfl, rfl⟩
    · rintro ⟨e1, e2⟩; cases hx : arg as 0; rw [hx] at e1 e2; simp at e1 e2; rw [e1, e2]; rfl
  dsimp only
  by_cases h1 : (arg as 0).kind = 0
  · obtain ⟨g1, es1, e1, e2, V2⟩ := V1.row { c with pc := a } kv (off := 1) (x := vi a) rfl (by omega) rfl V1.s
    rw [if_pos (.inl h1), hP]
    simp [c_119, h116, q, V.Hc, V.He, hi0, ha0, h1, e1, e2]
    exact ⟨_, _, _, _, _, rfl, V2.W⟩
  · have V3 := V1.keep (n' := nxt AP mt 128 [vi 0] N) (g' := g) nxt_le (fun _ _ => rfl)
    obtain ⟨g1, es1, e1, e2, V2⟩ := V3.row { c with pc := a } kv (off := 1) (x := vi a) rfl (by omega) rfl V3.s
    by_cases h2 : (arg as 0).kind = 1 ∧ (arg as 0).num = 0
    · rw [if_pos (.inr (hz.2 h2)), hP]
      simp [c_119, h116, q, V.Hc, V.He, hi0, ha0, h2.1, h2.2, q1, numV, e1, e2]
      exact ⟨_, _, _, _, _, rfl, V2.W⟩
    · rw [if_neg (fun e => e.elim h1 (fun e => h2 (hz.1 e)))]
      have hb : (decide ((arg as 0).kind = 1) && decide ((arg as 0).num = 0)) = false := by
        rw [Bool.and_eq_false_iff]
        by_cases h3 : (arg as 0).kind = 1
        · right; simp; exact fun e => h2 ⟨h3, e⟩
        · left; simpa using h3
      simp [c_119, h116, q, V.Hc, V.He, hi0, ha0, h1, q1, numV, hb]
      exact ⟨_, _, _, _, _, rfl, V3.W⟩
theorem s_119_9 {a : Int} (V : VW k Z A B (preS p) o h n g ow ci es sv h.now.toNat c tv kv) (d : Din p ⟨9, a⟩ as h l c m) (hs : h.said.length ≤ 4294967296) : To k Z A B (preS p) o (doS p ⟨9, a⟩ as h) (.tuple []) (run AP mt 119 [.ptr o 0 0, aOp ⟨9, a⟩, lVal as] ⟨n, g⟩) := by
  have h116 := s_116 (mt := mt) V d.h0 rfl
  obtain ⟨N, hN, q⟩ := q127n (mt := mt) d (by simp) n g
  dsimp only at q
  have V1 := V.keep (n' := N) (g' := g) hN (fun _ _ => rfl)
  have hk0 := ok1_list V.s
  rw [doS_9 rfl, run_evS AP_119 _ _ rfl]
  have h9 := d.op9 rfl
  dsimp only at h9
  obtain ⟨m', hm⟩ : ∃ m', p[a.toNat]? = some m' := ⟨_, List.getElem?_eq_getElem (by omega)⟩
  have hmo := method_iff.1 (prog_method d.w.prog hm)
  have hal := d.al
  have htk := takes_nn d.w.prog ⟨9, a⟩
  have hb := d.w.born
  have hl := d.w.len
  obtain ⟨n2, g2, ow2, cv2, sv2, e1, W2⟩ := s_129 (mt := mt) V1.W (by omega) (by omega) a m' as ⟨h9.1, by omega⟩ hm (by omega) (by omega)
  dsimp only
  simp [c_119, h116, q, e1]
  exact ⟨_, _, _, _, _, rfl, W2⟩
theorem s_119_10 {a : Int} (V : VW k Z A B (preS p) o h n g ow ci es sv h.now.toNat c tv kv) (d : Din p ⟨10, a⟩ as h l c m) (hs : h.said.length ≤ 4294967296) : To k Z A B (preS p) o (doS p ⟨10, a⟩ as h) (.tuple []) (run AP mt 119 [.ptr o 0 0, aOp ⟨10, a⟩, lVal as] ⟨n, g⟩) := by
  have h116 := s_116 (mt := mt) V d.h0 rfl
  obtain ⟨N, hN, q⟩ := q127n (mt := mt) d (by simp) n g
  dsimp only at q
  have V1 := V.keep (n' := N) (g' := g) hN (fun _ _ => rfl)
  have hk0 := ok1_list V.s
  have hi0 := idx_arg as 0 (by have := d.al; simp [takesS] at this; omega)
  obtain ⟨hv0, ha0⟩ := d.arg (i := 0) (by simp [takesS])
  simp at hi0
  rw [doS_10 rfl, run_evS AP_119 _ _ rfl]
  have hv := valOk_iff.1 hv0
  obtain ⟨n2, g2, ow2, cv2, sv2, e1, W2⟩ := s_130 (mt := mt) V1 d.w.cl hs d.h0 (arg as 0) (fun e => by omega) (by have := d.f.sd; omega)
  simp [c_119, h116, q, hi0, ha0, e1]
  exact ⟨_, _, _, _, _, rfl, W2⟩
theorem s_119_11 {a : Int} (V : VW k Z A B (preS p) o h n g ow ci es sv h.now.toNat c tv kv) (d : Din p ⟨11, a⟩ as h l c m) (hs : h.said.length ≤ 4294967296) : To k Z A B (preS p) o (doS p ⟨11, a⟩ as h) (.tuple []) (run AP mt 119 [.ptr o 0 0, aOp ⟨11, a⟩, lVal as] ⟨n, g⟩) := by
  have h116 := s_116 (mt := mt) V d.h0 rfl
  obtain ⟨N, hN, q⟩ := q127n (mt := mt) d (by simp) n g
  dsimp only at q
  have V1 := V.keep (n' := N) (g' := g) hN (fun _ _ => rfl)
  have hk0 := ok1_list V.s
  rw [doS_11 rfl, run_evS AP_119 _ _ rfl]
  obtain ⟨g1, b1, b2, b3, g2, es2, ow2, kv2, b4, b5, V2⟩ := V1.push (by have := d.f.sl; omega) ⟨2, h.now⟩
  rw [push_eq d.hc]
  dsimp only at b1
  simp [c_119, h116, q, V.W.Ho, V.Hc, V.He, b1, b2, b4, b5, hk0.k, hk0.g, hk0.p]
  exact ⟨_, _, _, _, _, rfl, V2.W⟩
theorem s_119_12 {a : Int} (V : VW k Z A B (preS p) o h n g ow ci es sv h.now.toNat c tv kv) (d : Din p ⟨12, a⟩ as h l c m) (hs : h.said.length ≤ 4294967296) : To k Z A B (preS p) o (doS p ⟨12, a⟩ as h) (.tuple []) (run AP mt 119 [.ptr o 0 0, aOp ⟨12, a⟩, lVal as] ⟨n, g⟩) := by
  have h116 := s_116 (mt := mt) V d.h0 rfl
  obtain ⟨N, hN, q⟩ := q127n (mt := mt) d (by simp) n g
  dsimp only at q
  have V1 := V.keep (n' := N) (g' := g) hN (fun _ _ => rfl)
  have hk0 := ok1_list V.s
  have hi0 := idx_arg as 0 (by have := d.al; simp [takesS] at this; omega)
  obtain ⟨hv0, ha0⟩ := d.arg (i := 0) (by simp [takesS])
  simp at hi0
  rw [doS_12 rfl, run_evS AP_119 _ _ rfl]
  have hr := d.call0 (by simp)
  obtain ⟨d2, hd2⟩ : ∃ d2, h.calls[(arg as 0).num.toNat]? = some d2 := ⟨_, List.getElem?_eq_getElem (by omega)⟩
  obtain ⟨tv2, kv2, V2⟩ := V1.other hd2
  obtain ⟨N2, hN2, e1⟩ := s_131 (mt := mt) V2 ⟨12, a⟩ (arg as 0).num hr.2.1 rfl (fun e => by have := d.op13 (.inl e); exact this.1)
  have V3 := V1.keep (n' := N2) (g' := g) hN2 (fun _ _ => rfl)
  obtain ⟨g1, b1, b2, b3, g2, es2, ow2, kv2, b4, b5, V4⟩ := V3.push (by have := d.f.sl; omega) (lookS h ⟨12, a⟩ (arg as 0).num)
  rw [push_eq d.hc]
  simp [c_119, h116, q, V.Hc, V.He, hi0, ha0, e1, b1, b2, b4, b5, hk0.k, hk0.g, hk0.p]
  exact ⟨_, _, _, _, _, rfl, V4.W⟩
theorem s_119_13 {a : Int} (V : VW k Z A B (preS p) o h n g ow ci es sv h.now.toNat c tv kv) (d : Din p ⟨13, a⟩ as h l c m) (hs : h.said.length ≤ 4294967296) : To k Z A B (preS p) o (doS p ⟨13, a⟩ as h) (.tuple []) (run AP mt 119 [.ptr o 0 0, aOp ⟨13, a⟩, lVal as] ⟨n, g⟩) := by
  have h116 := s_116 (mt := mt) V d.h0 rfl
  obtain ⟨N, hN, q⟩ := q127n (mt := mt) d (by simp) n g
  dsimp only at q
  have V1 := V.keep (n' := N) (g' := g) hN (fun _ _ => rfl)
  have hk0 := ok1_list V.s
  have hi0 := idx_arg as 0 (by have := d.al; simp [takesS] at this; omega)
  obtain ⟨hv0, ha0⟩ := d.arg (i := 0) (by simp [takesS])
  simp at hi0
  rw [doS_13 rfl, run_evS AP_119 _ _ rfl]
  have hr := d.call0 (by simp)
  obtain ⟨d2, hd2⟩ : ∃ d2, h.calls[(arg as 0).num.toNat]? = some d2 := ⟨_, List.getElem?_eq_getElem (by omega)⟩
  obtain ⟨tv2, kv2, V2⟩ := V1.other hd2
  obtain ⟨N2, hN2, e1⟩ := s_131 (mt := mt) V2 ⟨13, a⟩ (arg as 0).num hr.2.1 rfl (fun e => by have := d.op13 (.inl e); exact this.1)
  have V3 := V1.keep (n' := N2) (g' := g) hN2 (fun _ _ => rfl)
  obtain ⟨g1, b1, b2, b3, g2, es2, ow2, kv2, b4, b5, V4⟩ := V3.push (by have := d.f.sl; omega) (lookS h ⟨13, a⟩ (arg as 0).num)
  rw [push_eq d.hc]
  simp [c_119, h116, q, V.Hc, V.He, hi0, ha0, e1, b1, b2, b4, b5, hk0.k, hk0.g, hk0.p]
  exact ⟨_, _, _, _, _, rfl, V4.W⟩
theorem s_119_17 {a : Int} (V : VW k Z A B (preS p) o h n g ow ci es sv h.now.toNat c tv kv) (d : Din p ⟨17, a⟩ as h l c m) (hs : h.said.length ≤ 4294967296) : To k Z A B (preS p) o (doS p ⟨17, a⟩ as h) (.tuple []) (run AP mt 119 [.ptr o 0 0, aOp ⟨17, a⟩, lVal as] ⟨n, g⟩) := by
  have h116 := s_116 (mt := mt) V d.h0 rfl
  obtain ⟨N, hN, q⟩ := q127n (mt := mt) d (by simp) n g
  dsimp only at q
  have V1 := V.keep (n' := N) (g' := g) hN (fun _ _ => rfl)
  have hk0 := ok1_list V.s
  have hi0 := idx_arg as 0 (by have := d.al; simp [takesS] at this; omega)
  obtain ⟨hv0, ha0⟩ := d.arg (i := 0) (by simp [takesS])
  simp at hi0
  rw [doS_17 rfl, run_evS AP_119 _ _ rfl]
  have hr := d.call0 (by simp)
  obtain ⟨d2, hd2⟩ : ∃ d2, h.calls[(arg as 0).num.toNat]? = some d2 := ⟨_, List.getElem?_eq_getElem (by omega)⟩
  obtain ⟨tv2, kv2, V2⟩ := V1.other hd2
  obtain ⟨N2, hN2, e1⟩ := s_131 (mt := mt) V2 ⟨17, a⟩ (arg as 0).num hr.2.1 rfl (fun e => by have := d.op13 (.inl e); exact this.1)
  have V3 := V1.keep (n' := N2) (g' := g) hN2 (fun _ _ => rfl)
  obtain ⟨g1, b1, b2, b3, g2, es2, ow2, kv2, b4, b5, V4⟩ := V3.push (by have := d.f.sl; omega) (lookS h ⟨17, a⟩ (arg as 0).num)
  rw [push_eq d.hc]
  simp [c_119, h116, q, V.Hc, V.He, hi0, ha0, e1, b1, b2, b4, b5, hk0.k, hk0.g, hk0.p]
  exact ⟨_, _, _, _, _, rfl, V4.W⟩
theorem s_119_18 {a : Int} (V : VW k Z A B (preS p) o h n g ow ci es sv h.now.toNat c tv kv) (d : Din p ⟨18, a⟩ as h l c m) (hs : h.said.length ≤ 4294967296) : To k Z A B (preS p) o (doS p ⟨18, a⟩ as h) (.tuple []) (run AP mt 119 [.ptr o 0 0, aOp ⟨18, a⟩, lVal as] ⟨n, g⟩) := by
  have h116 := s_116 (mt := mt) V d.h0 rfl
  obtain ⟨N, hN, q⟩ := q127n (mt := mt) d (by simp) n g
  dsimp only at q
  have V1 := V.keep (n' := N) (g' := g) hN (fun _ _ => rfl)
  have hk0 := ok1_list V.s
  have hi0 := idx_arg as 0 (by have := d.al; simp [takesS] at this; omega)
  obtain ⟨hv0, ha0⟩ := d.arg (i := 0) (by simp [takesS])
  simp at hi0
  rw [doS_18 rfl, run_evS AP_119 _ _ rfl]
  have hr := d.call0 (by simp)
  obtain ⟨d2, hd2⟩ : ∃ d2, h.calls[(arg as 0).num.toNat]? = some d2 := ⟨_, List.getElem?_eq_getElem (by omega)⟩
  obtain ⟨tv2, kv2, V2⟩ := V1.other hd2
  obtain ⟨N2, hN2, e1⟩ := s_131 (mt := mt) V2 ⟨18, a⟩ (arg as 0).num hr.2.1 rfl (fun e => by have := d.op13 (.inl e); exact this.1)
  have V3 := V1.keep (n' := N2) (g' := g) hN2 (fun _ _ => rfl)
  obtain ⟨g1, b1, b2, b3, g2, es2, ow2, kv2, b4, b5, V4⟩ := V3.push (by have := d.f.sl; omega) (lookS h ⟨18, a⟩ (arg as 0).num)
  rw [push_eq d.hc]
  simp [c_119, h116, q, V.Hc, V.He, hi0, ha0, e1, b1, b2, b4, b5, hk0.k, hk0.g, hk0.p]
  exact ⟨_, _, _, _, _, rfl, V4.W⟩
theorem s_119_14 {a : Int} (V : VW k Z A B (preS p) o h n g ow ci es sv h.now.toNat c tv kv) (d : Din p ⟨14, a⟩ as h l c m) (hs : h.said.length ≤ 4294967296) : To k Z A B (preS p) o (doS p ⟨14, a⟩ as h) (.tuple []) (run AP mt 119 [.ptr o 0 0, aOp ⟨14, a⟩, lVal as] ⟨n, g⟩) := by
  have h116 := s_116 (mt := mt) V d.h0 rfl
  obtain ⟨N, hN, q⟩ := q127n (mt := mt) d (by simp) n g
  dsimp only at q
  have V1 := V.keep (n' := N) (g' := g) hN (fun _ _ => rfl)
  have hk0 := ok1_list V.s
  have hi0 := idx_arg as 0 (by have := d.al; simp [takesS] at this; omega)
  obtain ⟨hv0, ha0⟩ := d.arg (i := 0) (by simp [takesS])
  simp at hi0
  have hi1 := idx_arg as 1 (by have := d.al; simp [takesS] at this; omega)
  obtain ⟨hv1, ha1⟩ := d.arg (i := 1) (by simp [takesS])
  simp at hi1
  rw [doS_14 rfl, run_evS AP_119 _ _ rfl]
  have hr := d.call0 (by simp)
  have ha := d.op13 (.inr rfl)
  dsimp only at ha
  obtain ⟨d2, hd2⟩ : ∃ d2, h.calls[(arg as 0).num.toNat]? = some d2 := ⟨_, List.getElem?_eq_getElem (by omega)⟩
  obtain ⟨tv2, kv2, V2⟩ := V1.other hd2
  have ix2 := V2.ix hr.2.1 rfl
  have hln := own_len V2.t
  have htv := ok1_list V2.t
  dsimp only
  by_cases hlt : a < d2.temps.length
  · obtain ⟨ti, ts, rfl, e2, rfl, g1, e3, V3⟩ := V2.temp a.toNat (by omega) (arg as 1)
    have hti : (d2.temps.map eVal)[a.toNat]? = some (eVal (d2.temps[a.toNat]'(by omega))) := by rw [List.getElem?_map, List.getElem?_eq_getElem (by omega)]; rfl
    have ei := idx_slice (z := 2) (off := 0) (len := d2.temps.length) (k := .i64) (n := a) ha.1 (by omega) e2 (by rw [Nat.zero_add]; exact hti) rfl
    simp at ei
    have hst : stH 2 a.toNat 0 [vi (arg as 1).kind, vi (arg as 1).num] (some (d2.temps.map eVal)) = some ((d2.temps.map eVal).set a.toNat [vi (arg as 1).kind, vi (arg as 1).num]) := stH_ok hti ⟨rfl, by simp⟩
    have hT : setT h (arg as 0).num.toNat a.toNat (arg as 1) = setC h (arg as 0).num.toNat { d2 with temps := d2.temps.set a.toNat (arg as 1) } := by unfold setT; rw [hd2]; simp only []; rw [if_pos (by omega)]
    rw [hT]
    simp [c_119, h116, q, V.W.Ho, hi0, ha0, hi1, ha1, ix2, V2.Hc, V2.He, hlt, ei, e2, hst, e3]
    exact ⟨_, _, _, _, _, rfl, V3.W⟩
  · have hT : setT h (arg as 0).num.toNat a.toNat (arg as 1) = h := by unfold setT; rw [hd2]; simp only []; rw [if_neg (by omega)]
    rw [hT]
    simp [-lenV, c_119, h116, q, V.W.Ho, hi0, ha0, ix2, V2.Hc, V2.He, hln, htv.k, htv.g, htv.p, hlt]
    exact ⟨_, _, _, _, _, rfl, V1.W⟩
theorem s_119_15 {a : Int} (V : VW k Z A B (preS p) o h n g ow ci es sv h.now.toNat c tv kv) (d : Din p ⟨15, a⟩ as h l c m) (hs : h.said.length ≤ 4294967296) : To k Z A B (preS p) o (doS p ⟨15, a⟩ as h) (.tuple []) (run AP mt 119 [.ptr o 0 0, aOp ⟨15, a⟩, lVal as] ⟨n, g⟩) := by
  have h116 := s_116 (mt := mt) V d.h0 rfl
  obtain ⟨N, hN, q⟩ := q127n (mt := mt) d (by simp) n g
  dsimp only at q
  have V1 := V.keep (n' := N) (g' := g) hN (fun _ _ => rfl)
  have hk0 := ok1_list V.s
  have hi0 := idx_arg as 0 (by have := d.al; simp [takesS] at this; omega)
  obtain ⟨hv0, ha0⟩ := d.arg (i := 0) (by simp [takesS])
  simp at hi0
  have hi1 := idx_arg as 1 (by have := d.al; simp [takesS] at this; omega)
  obtain ⟨hv1, ha1⟩ := d.arg (i := 1) (by simp [takesS])
  simp at hi1
  rw [doS_15 rfl, run_evS AP_119 _ _ rfl]
  have hr := d.call0 (by simp)
  obtain ⟨n2, g2, ow2, cv2, sv2, e1, W2⟩ := s_132 (mt := mt) V1.W d.w d.h0 (arg as 0).num hr.2 (arg as 1)
  simp [c_119, h116, q, hi0, ha0, hi1, ha1, e1]
  exact ⟨_, _, _, _, _, rfl, W2⟩
theorem s_119_16 {a : Int} (V : VW k Z A B (preS p) o h n g ow ci es sv h.now.toNat c tv kv) (d : Din p ⟨16, a⟩ as h l c m) (hs : h.said.length ≤ 4294967296) : To k Z A B (preS p) o (doS p ⟨16, a⟩ as h) (.tuple []) (run AP mt 119 [.ptr o 0 0, aOp ⟨16, a⟩, lVal as] ⟨n, g⟩) := by
  have h116 := s_116 (mt := mt) V d.h0 rfl
  obtain ⟨N, hN, q⟩ := q127n (mt := mt) d (by simp) n g
  dsimp only at q
  have V1 := V.keep (n' := N) (g' := g) hN (fun _ _ => rfl)
  have hk0 := ok1_list V.s
  have hi0 := idx_arg as 0 (by have := d.al; simp [takesS] at this; omega)
  obtain ⟨hv0, ha0⟩ := d.arg (i := 0) (by simp [takesS])
  simp at hi0
  rw [doS_16 rfl, run_evS AP_119 _ _ rfl]
  have hv := valOk_iff.1 hv0
  obtain ⟨n2, g2, ow2, cv2, sv2, e1, W2⟩ := s_133 (mt := mt) V1.W (by omega) (arg as 0) (fun e => by omega)
  simp [c_119, h116, q, hi0, ha0, e1]
  exact ⟨_, _, _, _, _, rfl, W2⟩
theorem s_119 (V : VW k Z A B (preS p) o h n g ow ci es sv h.now.toNat c tv kv) (d : Din p op as h l c m) (hs : h.said.length ≤ 4294967296) : To k Z A B (preS p) o (doS p op as h) (.tuple []) (run AP mt 119 [.ptr o 0 0, aOp op, lVal as] ⟨n, g⟩) := by
  have hkr := d.kr
  obtain ⟨κ, a⟩ := op
  dsimp only at hkr
  rcases hkr with rfl | rfl | rfl | rfl | rfl | rfl | rfl | rfl | rfl | rfl | rfl | rfl | rfl | rfl | rfl | rfl | rfl | rfl
  · rw [doS_1 rfl]; exact s_119m (mt := mt) V d (by simp [madeS])
  · exact s_119_2 (mt := mt) V d hs
  · exact s_119_3 (mt := mt) V d hs
  · exact s_119_4 (mt := mt) V d hs
  · rw [doS_5 rfl]; exact s_119m (mt := mt) V d (by simp [madeS])
  · rw [doS_6 rfl]; exact s_119m (mt := mt) V d (by simp [madeS])
  · exact s_119_7 (mt := mt) V d hs
  · exact s_119_8 (mt := mt) V d hs
  · exact s_119_9 (mt := mt) V d hs
  · exact s_119_10 (mt := mt) V d hs
  · exact s_119_11 (mt := mt) V d hs
  · exact s_119_12 (mt := mt) V d hs
  · exact s_119_13 (mt := mt) V d hs
  · exact s_119_14 (mt := mt) V d hs
  · exact s_119_15 (mt := mt) V d hs
  · exact s_119_16 (mt := mt) V d hs
  · exact s_119_17 (mt := mt) V d hs
  · exact s_119_18 (mt := mt) V d hs
end
end Go.Ai
set_option linter.unusedSimpArgs false
set_option linter.unusedVariables false
namespace Go.Ai
variable {mt : Nat → Nat → Option Nat}
attribute [local simp] cnd_ite gS_ite callBy_whole
theorem sl_from {g : Heap'} {ow : Ow} {q : List Nat} {l : List GVal} {v : AVal} (h : Own g ow q (lVal l) v) {k : Nat} (hk : k ≤ l.length) : ∃ w, slV 2 v (some (vi k)) none g = some w ∧ srcOf g w = some ((l.drop k).map eVal) ∧ Ok1 w := by
  rcases h.flat (sVal l) with ⟨e, rfl⟩ | ⟨hne, id, rfl, hw, hg⟩
  · have e := List.map_eq_nil_iff.1 e
    subst e
    have : k = 0 := by simpa using hk
    subst this
    exact ⟨.nils, by simp [slV, boundOf], rfl, ⟨rfl, rfl, fun _ => rfl, rfl⟩⟩
  · have hm : l.map eVal ≠ [] := hne
    have hw2 := w_Val l
    refine ⟨.slice id k (l.length - k), ?_, ?_, ⟨rfl, rfl, fun _ => rfl, rfl⟩⟩
    · have hm' : l ≠ [] := fun e => hne (by simp [e])
      simp [slV, boundOf, hk, hg, hm']
    · have h1 : k + (l.length - k) ≤ l.length := by omega
      have h2 : ((l.map eVal).drop k).take (l.length - k) = (l.map eVal).drop k := List.take_of_length_le (by simp)
      simp only [srcOf, hg, Option.bind_some, List.length_map, if_pos h1]
      rw [h2, List.map_drop]
theorem sl_to {g : Heap'} {ow : Ow} {q : List Nat} {l : List GVal} {v : AVal} (h : Own g ow q (lVal l) v) {k : Nat} (hk : k ≤ l.length) : ∃ w, slV 2 v none (some (vi k)) g = some w ∧ srcOf g w = some ((l.take k).map eVal) ∧ Ok1 w := by
  rcases h.flat (sVal l) with ⟨e, rfl⟩ | ⟨hne, id, rfl, hw, hg⟩
  · have e := List.map_eq_nil_iff.1 e
    subst e
    have : k = 0 := by simpa using hk
    subst this
    exact ⟨.nils, by simp [slV, boundOf], rfl, ⟨rfl, rfl, fun _ => rfl, rfl⟩⟩
  · have hw2 := w_Val l
    refine ⟨.slice id 0 k, ?_, ?_, ⟨rfl, rfl, fun _ => rfl, rfl⟩⟩
    · have hm' : l ≠ [] := fun e => hne (by simp [e])
      simp [slV, boundOf, hk, hg, hm']
    · have h1 : 0 + k ≤ l.length := by omega
      simp only [srcOf, hg, Option.bind_some, List.length_map, if_pos h1]
      rw [List.drop_zero, List.map_take]
theorem New.fz {n n' : Nat} {g g1 : Heap'} {l : List GVal} {v : AVal} (h : New n g n' g1 l v) : ∃ g2, fzV v ⟨n', g1⟩ = some (lVal l, ⟨n', g2⟩) ∧ ∀ id, id ≠ n → g2 id = g id := by
  rcases h with ⟨rfl, rfl, rfl, rfl⟩ | ⟨hne, rfl, rfl, rfl⟩
  · exact ⟨g1, rfl, fun _ _ => rfl⟩
  · refine ⟨updO (updO g n (some (l.map eVal))) n none, ?_, fun id hid => by simp [updO, hid]⟩
    have h1 : (l.map eVal).take l.length = l.map eVal := List.take_of_length_le (by simp)
    simp [fzV, updO, h1]
section
variable {k n : Nat} {Z : Heap'} {A B : List Nat} {p : GProg} {o : Nat} {h : GHeap} {g : Heap'} {ow : Ow} {cv sv : AVal}
variable {ci : Nat} {es : Obj'} {j : Nat} {c : GCall} {tv kv : AVal} {op : GOp} {as : List GVal} {l : List Int} {m : GMethod}
theorem s_101 (W : HW k Z A B (preS p) o h n g ow cv sv) (w : WF p h l) (h0 : 0 ≤ h.now) (hs : h.said.length ≤ 4294967296) : To k Z A B (preS p) o (stepS p h) (.tuple []) (run AP mt 101 [.ptr o 0 0] ⟨n, g⟩) := by
  have hst := step_in w h0
  obtain ⟨c, m, l', rfl, hc, hd, ht, f, hn⟩ := w.head h0
  obtain ⟨ci, es, tv, kv, rfl, V⟩ := W.view hc
  have h116 := s_116 (mt := mt) V h0 rfl
  have hixm := fun g => idx_ok (g := g) (k := .i64) (w_Method p) f.mr.1 (by simpa using f.mr.2)
  obtain ⟨g1, b1, _, V1⟩ := V.root (h' := { h with code := 2 }) (off := 5) (x := vi 2) rfl (by simp) rfl rfl
  simp at b1
  have hpl : p.length ≤ 4 := by
    have := w.prog
    simp only [progOk, Bool.and_eq_true, inR_iff] at this
    omega
  rw [run_evS AP_101 _ _ rfl]
  have uc : ∀ {c' : GCall}, h.calls[h.now.toNat]? = some c' → c = c' := fun hc' => by rw [hc] at hc'; injection hc'
  have um : ∀ {m' : GMethod}, p[c.method.toNat]? = some m' → m = m' := fun hm' => by rw [f.Hm] at hm'; injection hm'
  cases hst with
  | none c' m' hc' f' ho he =>
    have := uc hc'; subst this
    have := um f'.Hm; subst this
    have hpc : (m.ops.length : Int) ≤ c.pc := by have := List.getElem?_eq_none_iff.1 ho; have := f.pc; omega
    rw [he]
    simp [c_101, h116, V.W.Ho, V.Hc, V.He, hixm, f.Hm, hpc, stH_root, b1]
    exact ⟨_, _, _, _, _, rfl, V1.W⟩
  | few c' m' op hc' f' ho hop hl he =>
    have := uc hc'; subst this
    have := um f'.Hm; subst this
    have hpc : ¬ (m.ops.length : Int) ≤ c.pc := by have := (List.getElem?_eq_some_iff.1 ho).1; have := f.pc; omega
    have hixo := fun g => idx_ok (g := g) (k := .i64) (w_Op m.ops) f.pc.1 (by simp; omega)
    have tn := takes_nn w.prog op
    have hln := own_len V.s
    have hk0 := ok1_list V.s
    have hsl := f.sl
    obtain ⟨N, hN, q⟩ : ∃ N, n ≤ N ∧ callBy (run AP mt) (.alone false true) 117 [aProg p, aOp op] ⟨n, g⟩ = some (.tuple [vi (takesS p op).1, vi (takesS p op).2], ⟨N, g⟩) := ⟨_, nxt_le, s_117 (mt := mt) p op (by omega) ⟨n, g⟩⟩
    have V0 := V.keep (n' := N) (g' := g) hN (fun _ _ => rfl)
    have hwr : IntKind.i64.wrap ((c.stack.length : Int) - (takesS p op).1) = (c.stack.length : Int) - (takesS p op).1 := wrap_id (by omega) (by omega)
    have hwr2 : IntKind.i64.wrap ((c.stack.length : Int) - (takesS p op).1 + (takesS p op).2) = (c.stack.length : Int) - (takesS p op).1 + (takesS p op).2 := wrap_id (by omega) (by omega)
    simp only [List.length_map] at hln
    rw [he]
    obtain ⟨g1, b1, _, V1⟩ := V0.root (h' := { h with code := 2 }) (off := 5) (x := vi 2) rfl (by simp) rfl rfl
    simp at b1
    by_cases hneg : (c.stack.length : Int) - (takesS p op).1 < 0
    · simp [c_101, h116, V.W.Ho, V.Hc, V.He, hixm, f.Hm, hpc, hixo, ho, q, -lenV, -List.map_drop, -List.map_take, lenV_list, hln, hk0.k, hk0.g, hk0.p, hwr, hwr2, hneg, stH_root, b1]
      exact ⟨_, _, _, _, _, rfl, V1.W⟩
    · have hneg2 : 6 < (c.stack.length : Int) - (takesS p op).1 + (takesS p op).2 := by omega
      simp [c_101, h116, V.W.Ho, V.Hc, V.He, hixm, f.Hm, hpc, hixo, ho, q, -lenV, -List.map_drop, -List.map_take, lenV_list, hln, hk0.k, hk0.g, hk0.p, hwr, hwr2, hneg, hneg2, stH_root, b1]
      exact ⟨_, _, _, _, _, rfl, V1.W⟩
  | kind c' m' op hc' f' ho hop k hk hl ht hkk he =>
    have := uc hc'; subst this
    have := um f'.Hm; subst this
    have hpc : ¬ (m.ops.length : Int) ≤ c.pc := by have := (List.getElem?_eq_some_iff.1 ho).1; have := f.pc; omega
    have hixo := fun g => idx_ok (g := g) (k := .i64) (w_Op m.ops) f.pc.1 (by simp; omega)
    have tn := takes_nn w.prog op
    have hln := own_len V.s
    have hk0 := ok1_list V.s
    have hsl := f.sl
    obtain ⟨N, hN, q⟩ : ∃ N, n ≤ N ∧ callBy (run AP mt) (.alone false true) 117 [aProg p, aOp op] ⟨n, g⟩ = some (.tuple [vi (takesS p op).1, vi (takesS p op).2], ⟨N, g⟩) := ⟨_, nxt_le, s_117 (mt := mt) p op (by omega) ⟨n, g⟩⟩
    have V0 := V.keep (n' := N) (g' := g) hN (fun _ _ => rfl)
    have hwr : IntKind.i64.wrap ((c.stack.length : Int) - (takesS p op).1) = (c.stack.length : Int) - (takesS p op).1 := wrap_id (by omega) (by omega)
    have hwr2 : IntKind.i64.wrap ((c.stack.length : Int) - (takesS p op).1 + (takesS p op).2) = (c.stack.length : Int) - (takesS p op).1 + (takesS p op).2 := wrap_id (by omega) (by omega)
    simp only [List.length_map] at hln
    rw [he]
    have hneg : ¬ ((c.stack.length : Int) - (takesS p op).1 < 0) := by omega
    have hneg2 : ¬ (6 < (c.stack.length : Int) - (takesS p op).1 + (takesS p op).2) := by omega
    have hkl : k ≤ c.stack.length := by omega
    have hkr : (c.stack.length : Int) - (takesS p op).1 = k := hk.symm
    obtain ⟨w1, e1, e2, e3⟩ := sl_from V.s hkl
    obtain ⟨n1, g1, v1, e4, e5⟩ := app_new (n := N) e2 (by simp; omega)
    obtain ⟨g2, e6, e7⟩ := e5.fz
    have hn1 := (e5.own ow A).1
    have hv1 := ok1_list (e5.own ow A).2.2.1
    have V1 := V0.keep (n' := n1) (g' := g2) hn1 (fun id hid => e7 id (by omega))
    obtain ⟨N2, hN2, q2⟩ : ∃ N2, n1 ≤ N2 ∧ callBy (run AP mt) (.alone false true) 118 [aOp op, lVal (c.stack.drop k)] ⟨n1, g2⟩ = some (.bool (kindsS op (c.stack.drop k)), ⟨N2, g2⟩) :=
      ⟨_, nxt_le, s_118 (mt := mt) op (c.stack.drop k) (by have := takes_nil w.prog op; rw [List.length_drop]; omega) ⟨n1, g2⟩⟩
    rw [hkk] at q2
    have V2 := V1.keep (n' := N2) (g' := g2) hN2 (fun _ _ => rfl)
    obtain ⟨g3, b1, _, V3⟩ := V2.root (h' := { h with code := 2 }) (off := 5) (x := vi 2) rfl (by simp) rfl rfl
    simp at b1
    replace hwr := hwr.trans hkr
    have hwr2 : IntKind.i64.wrap ((k : Int) + (takesS p op).2) = k + (takesS p op).2 := wrap_id (by omega) (by omega)
    have hneg : ¬ ((k : Int) < 0) := by omega
    have hneg2 : ¬ (6 < (k : Int) + (takesS p op).2) := by omega
    simp [c_101, h116, V.W.Ho, V.Hc, V.He, hixm, f.Hm, hpc, hixo, ho, q, -lenV, -List.map_drop, -List.map_take, lenV_list, hln, hk0.k, hk0.g, hk0.p, hwr, hwr2, hneg, hneg2, e1, e4, e3.k, e3.g, e3.p, hv1.k, hv1.g, hv1.p, e6, q2, V2.W.Ho, stH_root, b1]
    exact ⟨_, _, _, _, _, rfl, V3.W⟩
  | done c' m' op hc' f' ho hop k hk hl ht hkk d he =>
    have := uc hc'; subst this
    have := um f'.Hm; subst this
    have hpc : ¬ (m.ops.length : Int) ≤ c.pc := by have := (List.getElem?_eq_some_iff.1 ho).1; have := f.pc; omega
    have hixo := fun g => idx_ok (g := g) (k := .i64) (w_Op m.ops) f.pc.1 (by simp; omega)
    have tn := takes_nn w.prog op
    have hln := own_len V.s
    have hk0 := ok1_list V.s
    have hsl := f.sl
    obtain ⟨N, hN, q⟩ : ∃ N, n ≤ N ∧ callBy (run AP mt) (.alone false true) 117 [aProg p, aOp op] ⟨n, g⟩ = some (.tuple [vi (takesS p op).1, vi (takesS p op).2], ⟨N, g⟩) := ⟨_, nxt_le, s_117 (mt := mt) p op (by omega) ⟨n, g⟩⟩
    have V0 := V.keep (n' := N) (g' := g) hN (fun _ _ => rfl)
    have hwr : IntKind.i64.wrap ((c.stack.length : Int) - (takesS p op).1) = (c.stack.length : Int) - (takesS p op).1 := wrap_id (by omega) (by omega)
    have hwr2 : IntKind.i64.wrap ((c.stack.length : Int) - (takesS p op).1 + (takesS p op).2) = (c.stack.length : Int) - (takesS p op).1 + (takesS p op).2 := wrap_id (by omega) (by omega)
    simp only [List.length_map] at hln
    rw [he]
    have hneg : ¬ ((c.stack.length : Int) - (takesS p op).1 < 0) := by omega
    have hneg2 : ¬ (6 < (c.stack.length : Int) - (takesS p op).1 + (takesS p op).2) := by omega
    have hkl : k ≤ c.stack.length := by omega
    have hkr : (c.stack.length : Int) - (takesS p op).1 = k := hk.symm
    obtain ⟨w1, e1, e2, e3⟩ := sl_from V.s hkl
    obtain ⟨n1, g1, v1, e4, e5⟩ := app_new (n := N) e2 (by simp; omega)
    obtain ⟨g2, e6, e7⟩ := e5.fz
    have hn1 := (e5.own ow A).1
    have hv1 := ok1_list (e5.own ow A).2.2.1
    have V1 := V0.keep (n' := n1) (g' := g2) hn1 (fun id hid => e7 id (by omega))
    obtain ⟨N2, hN2, q2⟩ : ∃ N2, n1 ≤ N2 ∧ callBy (run AP mt) (.alone false true) 118 [aOp op, lVal (c.stack.drop k)] ⟨n1, g2⟩ = some (.bool (kindsS op (c.stack.drop k)), ⟨N2, g2⟩) :=
      ⟨_, nxt_le, s_118 (mt := mt) op (c.stack.drop k) (by have := takes_nil w.prog op; rw [List.length_drop]; omega) ⟨n1, g2⟩⟩
    rw [hkk] at q2
    have V2 := V1.keep (n' := N2) (g' := g2) hN2 (fun _ _ => rfl)
    obtain ⟨w2, x1, x2, x3⟩ := sl_to V2.s hkl
    obtain ⟨n3, g3, v3, x4, x5⟩ := app_new (n := N2) x2 (by simp; omega)
    obtain ⟨y1, y2, y3, y4, _⟩ := x5.own ow (A ++ [h.now.toNat, 3])
    obtain ⟨z1, z2, z3, g4, es4, ow4, z4, z5, V4, _⟩ := V2.stk { c with stack := c.stack.take k } y1 y2 (fun id hid _ => y4 id hid) y3 (by
      rcases x5 with ⟨_, e, _, _⟩ | ⟨_, _, e, _⟩
      · exact fun _ => e
      · intro e'; omega) rfl
    obtain ⟨g5, es5, z6, z7, V5⟩ := V4.row { c with stack := c.stack.take k, pc := c.pc + 1 } v3 (off := 1) (x := vi (c.pc + 1)) rfl (by omega) rfl V4.s
    have hset : setC (setC h h.now.toNat { c with stack := c.stack.take k }) h.now.toNat { c with stack := c.stack.take k, pc := c.pc + 1 } = setC h h.now.toNat { c with stack := c.stack.take k, pc := c.pc + 1 } := by simp [setC]
    rw [hset] at V5
    have hwp : IntKind.i64.wrap (c.pc + 1) = c.pc + 1 := wrap_id (by have := f.pc; omega) (by have := f.pc; have := (method_iff.1 (prog_method w.prog f.Hm)).2.2.1; omega)
    obtain ⟨n6, g6, ow6, cv6, sv6, z8, W6⟩ := s_119 (mt := mt) V5 d hs
    replace hwr := hwr.trans hkr
    have hwr2 : IntKind.i64.wrap ((k : Int) + (takesS p op).2) = k + (takesS p op).2 := wrap_id (by omega) (by omega)
    have hneg : ¬ ((k : Int) < 0) := by omega
    have hneg2 : ¬ (6 < (k : Int) + (takesS p op).2) := by omega
    simp [c_101, h116, V.W.Ho, V.Hc, V.He, hixm, f.Hm, hpc, hixo, ho, q, -lenV, -List.map_drop, -List.map_take, lenV_list, hln, hk0.k, hk0.g, hk0.p, hwr, hwr2, hneg, hneg2, e1, e4, e3.k, e3.g, e3.p, hv1.k, hv1.g, hv1.p, e6, q2, V2.Hc, V2.He, x1, x4, x3.k, x3.g, x3.p, z1, z4, z5, z3.k, z3.g, z3.p, z3.c, V4.Hc, V4.He, hwp, z6, z7, z8]
    exact ⟨_, _, _, _, _, rfl, W6⟩
end
end Go.Ai
set_option linter.unusedSimpArgs false
set_option linter.unusedVariables false
namespace Go.Ai
variable {mt : Nat → Nat → Option Nat}
attribute [local simp] cnd_ite gS_ite callBy_whole
/-- A row more, what belongs to it made since n. -/
theorem app_row {α : Type} {e : α → List AVal} {z b : Nat} {g g1 : Heap'} {ow o1 : Ow} {A : List Nat} {l : List α} {v : AVal} {n n1 : Nat} {a : α} {row : List AVal} (h : Own g ow A (.list (l.map e)) v) (hf : ∀ id q, ow id = some q → id < n) (hn : n ≤ n1) (hg : ∀ id, id < n → g1 id = g id)
    (hf1 : ∀ id q, o1 id = some q → n ≤ id ∧ id < n1) (hrow : RowR g1 o1 A l.length 0 (e a) row) (hz : ∀ a, (e a).length = z) (hb : (l.length + 1) * b ≤ maxA) :
    ∃ g2, appV z b v (.list [row]) ⟨n1, g1⟩ = some (.slice n1 0 (l.length + 1), ⟨n1 + 1, g2⟩) ∧ Own g2 (updW (joinW n ow o1) n1 A) A (.list ((l ++ [a]).map e)) (.slice n1 0 (l.length + 1)) ∧ ∀ id, id ≠ n1 → ow id ≠ some A → g2 id = g1 id := by
  have hrl : row.length = z := by rw [(RowR.iff.1 hrow).1, hz]
  have h1 : Own g1 ow A (.list (l.map e)) v := h.mono (fun id q hq _ => ⟨fun es he => by rw [hg id (hf id q hq)]; exact he, hq⟩)
  have key : ∃ es0, es0.length = l.length ∧ (∀ (i : Nat) c, l[i]? = some c → ∃ row, es0[i]? = some row ∧ RowR g1 ow A i 0 (e c) row) ∧
      ∃ g2, appV z b v (.list [row]) ⟨n1, g1⟩ = some (.slice n1 0 (l.length + 1), ⟨n1 + 1, g2⟩) ∧ g2 n1 = some (es0 ++ [row]) ∧ ∀ id, id ≠ n1 → ow id ≠ some A → g2 id = g1 id := by
    rcases h1.list_inv with ⟨e0, rfl⟩ | ⟨hne, id, es, rfl, h2, h3, h4, h5⟩
    · have e0 := List.map_eq_nil_iff.1 e0
      refine ⟨[], by simp [e0], fun i c hi => (by rw [e0] at hi; cases hi), updO g1 n1 (some [row]), ?_, by simp [updO], fun id hid _ => by simp [updO, hid]⟩
      have hb' : b ≤ maxA := by rw [e0] at hb; simpa using hb
      simp [appV, srcOf, e0, hrl, hb']
    · have h4' : es.length = l.length := by simpa using h4
      refine ⟨es, h4', fun i c hi => h5 i (e c) (by simp [hi]), updO (updO g1 id none) n1 (some (es ++ [row])), ?_, by simp [updO], fun id' hid hw' => ?_⟩
      · have hm : es ≠ [] := fun e0 => hne (List.eq_nil_of_length_eq_zero (by rw [← h4, e0]; rfl))
        have hw : ∀ e ∈ es, e.length = z := by
          intro e' he
          obtain ⟨i, hi, rfl⟩ := List.mem_iff_getElem.1 he
          obtain ⟨row, hr, hrow⟩ := h5 i (e (l[i]'(by omega))) (by rw [List.getElem?_map, List.getElem?_eq_getElem (by omega)]; rfl)
          rw [List.getElem?_eq_getElem hi] at hr
          injection hr with hr
          rw [hr, (RowR.iff.1 hrow).1, hz]
        simp [appV, srcOf, h3, h4', hm, hb, hrl]
        exact hw
      · simp only [updO]
        rw [if_neg hid, if_neg]
        rintro rfl
        exact hw' h2
  obtain ⟨es0, hl0, hr0, g2, a1, a2, a3⟩ := key
  refine ⟨g2, a1, ?_, a3⟩
  have K : Keep g1 ow g2 (updW (joinW n ow o1) n1 A) (fun id q => q ≠ A) := by
    intro id q hid hq
    have hlt := hf id q hid
    refine ⟨fun e he => ?_, ?_⟩
    · rw [a3 id (by omega) (fun e => by rw [hid] at e; injection e with e; exact hq e)]; exact he
    · simp only [updW, joinW]; rw [if_neg (by omega), if_pos hlt]; exact hid
  have K1 : Keep g1 o1 g2 (updW (joinW n ow o1) n1 A) (fun _ _ => True) := by
    intro id q hid _
    have := hf1 id q hid
    refine ⟨fun e he => ?_, ?_⟩
    · rw [a3 id (by omega) (fun e => by have := hf id _ e; omega)]; exact he
    · simp only [updW, joinW]; rw [if_neg (by omega), if_neg (by omega)]; exact hid
  have hA : ∀ (i c : Nat) (q : List Nat), A ++ [i, c] <+: q → q ≠ A := fun i c q h1 e => by subst e; have := h1.length_le; simp at this; omega
  refine Own.mk (es := es0 ++ [row]) (by simp) (by simp) (by simp [updW]) a2 (by simp [hl0]) (fun i row' row2 h1 h2 => ?_)
  rcases Nat.lt_or_ge i l.length with hi | hi
  · obtain ⟨row0, b1, b2⟩ := hr0 i _ (List.getElem?_eq_getElem hi)
    rw [List.getElem?_append_left (by omega), b1] at h2
    injection h2 with h2
    subst h2
    rw [List.getElem?_map, List.getElem?_append_left hi, List.getElem?_eq_getElem hi] at h1
    simp only [Option.map_some, Option.some.injEq] at h1
    subst h1
    rw [RowR.iff] at b2 ⊢
    exact ⟨b2.1, fun m a x ha hx => (b2.2 m a x ha hx).mono (K.mono fun id q _ h1 => hA _ _ q h1)⟩
  · have hie : i = l.length := by
      have := (List.getElem?_eq_some_iff.1 h2).1
      simp [hl0] at this; omega
    subst hie
    rw [List.getElem?_append_right (by omega)] at h2
    simp [hl0] at h2
    simp at h1
    subst h1 h2
    exact hrow.mono (K1.mono fun _ _ _ _ => trivial)
theorem FlV.grow {k m m' : Nat} {l : List GVal} {v : AVal} {g g' : Heap'} (h : FlV k m l v g) (hm : m ≤ m') (hg : ∀ id, id < m → g' id = g id) : FlV k m' l v g' := by
  obtain ⟨h1, h2, h3⟩ := h
  refine ⟨?_, by omega, fun id hid => by rw [hg id (by omega)]; exact h3 id hid⟩
  rcases h1 with h1 | ⟨hne, id, a1, a2, a3, a4⟩
  · exact .inl h1
  · exact .inr ⟨hne, id, a1, by omega, a3, by rw [hg id a2]; exact a4⟩
theorem New.fl {n n' : Nat} {g g1 : Heap'} {l : List GVal} {v : AVal} (h : New n g n' g1 l v) {k : Nat} (hk : k ≤ n) (hz : ∀ id, id < k → g id = none) : FlV k n' l v g1 := by
  rcases h with ⟨rfl, rfl, rfl, rfl⟩ | ⟨hne, rfl, rfl, rfl⟩
  · exact ⟨.inl ⟨rfl, rfl⟩, hk, hz⟩
  · exact ⟨.inr ⟨hne, n, hk, by omega, rfl, by simp [updO]⟩, by omega, fun id hid => by simp only [updO]; rw [if_neg (by omega)]; exact hz id hid⟩
/-- Two lists, one made behind the other. -/
theorem fl_two {k m1 m : Nat} {l1 l2 : List GVal} {v1 v2 : AVal} {g1 g : Heap'} (h1 : FlV k m1 l1 v1 g1) (h2 : FlV m1 m l2 v2 (fun id => if id < m1 then none else g id)) (hg : ∀ id, id < m1 → g id = g1 id) (p : List Nat) (a b : Nat) (hab : a ≠ b) :
    ∃ ow, Own g ow (p ++ [a]) (lVal l1) v1 ∧ Own g ow (p ++ [b]) (lVal l2) v2 ∧ ∀ id s, ow id = some s → k ≤ id ∧ id < m ∧ p <+: s := by
  obtain ⟨o1, a1, a2⟩ := h1.own (p ++ [a])
  obtain ⟨o2, b1, b2⟩ := h2.own (p ++ [b])
  have hm1 := h1.2.1
  have hm2 := h2.2.1
  refine ⟨joinW m1 o1 o2, a1.mono (fun id q hid _ => ⟨fun e he => ?_, ?_⟩), b1.mono (fun id q hid _ => ⟨fun e he => ?_, ?_⟩), fun id s hs => ?_⟩
  · rw [hg id (a2 id q hid).2.1]; exact he
  · simp only [joinW]; rw [if_pos (a2 id q hid).2.1]; exact hid
  · dsimp only at he; rw [if_neg (by have := (b2 id q hid).1; omega)] at he; exact he
  · simp only [joinW]; rw [if_neg (by have := (b2 id q hid).1; omega)]; exact hid
  · simp only [joinW] at hs
    split at hs
    · have := a2 id s hs; exact ⟨this.1, by omega, pre_up this.2.2⟩
    · have := b2 id s hs; exact ⟨by omega, this.2.1, pre_up this.2.2⟩
theorem s_115 (c : GCall) (hl : c.temps.length ≤ 2097152 ∧ c.stack.length ≤ 2097152) (k : Nat) : OutC k c (run AP mt 115 [aCall c] ⟨k, noObj⟩) := by
  obtain ⟨n1, g1, v1, a1, a2⟩ := app_new (g := noObj) (n := k) (y := lVal c.temps) (l := c.temps) rfl hl.1
  have F1 := a2.fl (Nat.le_refl _) (fun _ _ => rfl)
  obtain ⟨n2, g2, v2, b1, b2⟩ := app_new (g := g1) (n := n1) (y := lVal c.stack) (l := c.stack) rfl hl.2
  have hb := b2.own (fun _ => none) []
  have F2 : FlV n1 n2 c.stack v2 (fun id => if id < n1 then none else g2 id) := by
    rcases b2 with ⟨e1, rfl, rfl, rfl⟩ | ⟨hne, rfl, rfl, rfl⟩
    · exact ⟨.inl ⟨e1, rfl⟩, Nat.le_refl _, fun id hid => by simp [hid]⟩
    · exact ⟨.inr ⟨hne, n1, Nat.le_refl _, by omega, rfl, by simp [updO]⟩, by omega, fun id hid => by simp [hid]⟩
  have k1 := F1.ok
  have k2 := F2.ok
  have hle := F1.2.1
  rw [run_evS AP_115 _ _ rfl]
  simp [c_115, a1, b1, k1.k, k1.g, k1.p, k1.c, k2.k, k2.g, k2.p, k2.c]
  refine ⟨v1, v2, n2, g2, rfl, by omega, fun id hid => ?_, fun p => fl_two F1 F2 (fun id hid => hb.2.2.2.1 id (by omega)) p 2 3 (by decide)⟩
  rw [hb.2.2.2.1 id (by omega)]; exact F1.2.2 id hid
/-- Calls made since k. -/
structure FlC (k m : Nat) (cs : List GCall) (v : AVal) (g : Heap') : Prop where
  le : k ≤ m
  z : ∀ id, id < k → g id = none
  own : ∀ A : List Nat, ∃ ow, Own g ow A (lCall cs) v ∧ ∀ id s, ow id = some s → k ≤ id ∧ id < m ∧ A <+: s
theorem FlC.ok {k m : Nat} {cs : List GCall} {v : AVal} {g : Heap'} (h : FlC k m cs v g) : Ok1 v := by
  obtain ⟨ow, h1, _⟩ := h.own []
  exact ok1_list h1
/-- A call made since m. -/
structure MkC (m n1 : Nat) (g g1 : Heap') (c : GCall) (tv kv : AVal) : Prop where
  le : m ≤ n1
  same : ∀ id, id < m → g1 id = g id
  own : ∀ p : List Nat, ∃ o1, Own g1 o1 (p ++ [2]) (lVal c.temps) tv ∧ Own g1 o1 (p ++ [3]) (lVal c.stack) kv ∧ ∀ id s, o1 id = some s → m ≤ id ∧ id < n1 ∧ p <+: s
theorem OutC.mk {f : Nat} {as as' : List AVal} {c : GCall} {G : AG} {snap : Bool} (ha : frzs (if snap then G.obj else noObj) as = some as') (h : OutC G.next c (run AP mt f as' ⟨G.next, noObj⟩)) :
    ∃ tv kv n1 g1, (snap = false ∨ noImmO (fun id => if id < G.next then none else g1 id)) → callBy (run AP mt) (.alone snap false) f as G = some (.agg [vi c.method, vi c.pc, tv, kv, vi c.sender, .bool c.dead], ⟨n1, g1⟩) ∧ MkC G.next n1 G.obj g1 c tv kv ∧ Ok1 tv ∧ Ok1 kv := by
  obtain ⟨tv, kv, n1, g1, a1, a2, a3, a4⟩ := h
  refine ⟨tv, kv, n1, ovr G.obj g1, fun hs => ?_⟩
  obtain ⟨ox, x1, x2, _⟩ := a4 []
  refine ⟨?_, ⟨a2, fun id hid => ovr_none (a3 id hid), fun p => ?_⟩, ok1_list x1, ok1_list x2⟩
  · unfold callBy
    simp only [ha, Option.bind_some, a1, a2, if_true, Bool.false_eq_true, if_false]
    rw [if_pos]
    rcases hs with hs | hs
    · exact .inl hs
    · right
      refine ⟨?_, fun id es he e hm c hc => ?_⟩
      · have n1 := x1.noImm (by intro x e; cases e)
        have n2 := x2.noImm (by intro x e; cases e)
        simp [noImm, noImm.noImms, n1, n2]
      · by_cases hid : id < G.next
        · rw [a3 id hid] at he; cases he
        · refine hs id es ?_ e hm c hc
          simp only [if_neg hid, ovr, he]; rfl
  · obtain ⟨o1, b1, b2, b3⟩ := a4 p
    have K : Keep g1 o1 (ovr G.obj g1) o1 (fun _ _ => True) := fun id q hid _ => ⟨fun e he => ovr_some he, hid⟩
    exact ⟨o1, b1.mono (K.mono fun _ _ _ _ => trivial), b2.mono (K.mono fun _ _ _ _ => trivial), b3⟩
theorem FlC.one {k m n1 : Nat} {cs : List GCall} {v : AVal} {g g1 : Heap'} {c : GCall} {tv kv : AVal} (h : FlC k m cs v g) (hc : MkC m n1 g g1 c tv kv) (hl : cs.length ≤ 2097152) :
    ∃ g2, appV 6 80 v (.list [[vi c.method, vi c.pc, tv, kv, vi c.sender, .bool c.dead]]) ⟨n1, g1⟩ = some (.slice n1 0 (cs.length + 1), ⟨n1 + 1, g2⟩) ∧ FlC k (n1 + 1) (cs ++ [c]) (.slice n1 0 (cs.length + 1)) g2 := by
  have hb : (cs.length + 1) * 80 ≤ maxA := by simp only [maxA]; omega
  have hle := h.le
  have hle2 := hc.le
  have step : ∀ A : List Nat, ∃ g2 ow2, appV 6 80 v (.list [[vi c.method, vi c.pc, tv, kv, vi c.sender, .bool c.dead]]) ⟨n1, g1⟩ = some (.slice n1 0 (cs.length + 1), ⟨n1 + 1, g2⟩) ∧ Own g2 ow2 A (lCall (cs ++ [c])) (.slice n1 0 (cs.length + 1)) ∧
      (∀ id s, ow2 id = some s → k ≤ id ∧ id < n1 + 1 ∧ A <+: s) ∧ ∀ id, id < k → g2 id = none := by
    intro A
    obtain ⟨ow, a1, a2⟩ := h.own A
    obtain ⟨o1, b1, b2, b3⟩ := hc.own (A ++ [cs.length])
    have hrow : RowR g1 o1 A cs.length 0 (eCall c) [vi c.method, vi c.pc, tv, kv, vi c.sender, .bool c.dead] := ⟨.int _ _ _, .int _ _ _, by simpa using b1, by simpa using b2, .int _ _ _, .bool _ _, trivial⟩
    obtain ⟨g2, c1, c2, c3⟩ := app_row (e := eCall) (z := 6) (b := 80) a1 (fun id q hq => (a2 id q hq).2.1) hle2 hc.same (fun id q hq => ⟨(b3 id q hq).1, (b3 id q hq).2.1⟩) hrow (fun _ => rfl) hb
    refine ⟨g2, _, c1, c2, fun id s hs => ?_, fun id hid => ?_⟩
    · simp only [updW, joinW] at hs
      split at hs
      · rename_i e; subst e; injection hs with hs; subst hs; exact ⟨by omega, by omega, List.prefix_refl _⟩
      · split at hs
        · have := a2 id s hs; exact ⟨this.1, by omega, this.2.2⟩
        · have := b3 id s hs; exact ⟨by omega, by omega, pre_up this.2.2⟩
    · rw [c3 id (by omega) (fun e => by have := (a2 id _ e).1; omega), hc.same id (by omega)]; exact h.z id hid
  obtain ⟨g2, _, s1, _, _, s4⟩ := step []
  refine ⟨g2, s1, ⟨by omega, s4, fun A => ?_⟩⟩
  obtain ⟨g2', ow2, t1, t2, t3, _⟩ := step A
  rw [s1] at t1
  injection t1 with t1
  injection t1 with _ t1
  injection t1 with _ t1
  subst t1
  exact ⟨ow2, t2, t3⟩
/-- A heap made since k. -/
structure FlH (k m : Nat) (h : GHeap) (cv sv : AVal) (g : Heap') : Prop where
  le : k ≤ m
  z : ∀ id, id < k → g id = none
  own : ∀ A B : List Nat, ∃ ow, Own g ow A (lCall h.calls) cv ∧ Own g ow B (lVal h.said) sv ∧ ∀ id s, ow id = some s → k ≤ id ∧ id < m ∧ (A <+: s ∨ B <+: s)
theorem FlC.heap {k m n' : Nat} {h : GHeap} {cv sv : AVal} {g g' : Heap'} (hc : FlC k m h.calls cv g) (hs : New m g n' g' h.said sv) : FlH k n' h cv sv g' := by
  have hle := hc.le
  obtain ⟨x1, x2, x3, x4, _⟩ := hs.own (fun _ => none) []
  refine ⟨by omega, fun id hid => by rw [x4 id (by omega)]; exact hc.z id hid, fun A B => ?_⟩
  obtain ⟨ow, a1, a2⟩ := hc.own A
  have a1' : Own g' ow A (lCall h.calls) cv := a1.mono (fun id q hid _ => ⟨fun e he => by rw [x4 id (by have := (a2 id q hid).2.1; omega)]; exact he, hid⟩)
  rcases hs with ⟨e1, rfl, rfl, rfl⟩ | ⟨hne, rfl, rfl, rfl⟩
  · refine ⟨ow, a1', by rw [e1]; exact .nil _, fun id s hs => ?_⟩
    have := a2 id s hs; exact ⟨this.1, by omega, .inl this.2.2⟩
  · refine ⟨updW ow m B, a1'.mono (fun id q hid _ => ⟨fun e he => he, ?_⟩), own_new hne (by simp [updW]) (by simp [updO]), fun id s hs => ?_⟩
    · simp only [updW]; rw [if_neg (by have := (a2 id q hid).2.1; omega)]; exact hid
    · simp only [updW] at hs
      split at hs
      · rename_i e; subst e; injection hs with hs; subst hs; exact ⟨by omega, by omega, .inr (List.prefix_refl _)⟩
      · have := a2 id s hs; exact ⟨this.1, by omega, .inl this.2.2⟩
def OutH (k : Nat) (h : GHeap) (x : R) : Prop := ∃ cv sv m g, x = some (.agg [cv, vi h.now, vi h.born, sv, vi h.code], ⟨m, g⟩) ∧ FlH k m h cv sv g
theorem s_100 (h : GHeap) (hh : ShH h) (k : Nat) : OutH k h (run AP mt 100 [aHeap h] ⟨k, noObj⟩) := by
  have hl := hh.l
  rw [run_evS AP_100 _ _ rfl]
  simp [c_100]
  refine loop_for (OutH k h) h.calls.length (fun i (v : AVal) => upd (upd (upd (upd fr0 4 (vi i)) 3 (.pbox [v, vi h.now, vi h.born, lVal h.said, vi h.code])) 2 (.pbox [.nils, vi 0, vi 0, .nils, vi 0])) 1 (.pbox [lCall h.calls, vi h.now, vi h.born, lVal h.said, vi h.code]))
    (fun i v G => FlC k G.next (h.calls.take i) v G.obj) (fun _ _ _ => u_100_0) ?_ ?_ h.calls.length 0 .nils ⟨k, noObj⟩ (by omega) ⟨Nat.le_refl _, fun _ _ => rfl, fun A => ⟨fun _ => none, .nil _, fun id s h => (by cases h)⟩⟩
  · rintro v ⟨m, g⟩ hF
    rw [List.take_length] at hF
    have hc : ¬ ((h.calls.length : Int) < h.calls.length) := by omega
    have k1 := hF.ok
    obtain ⟨n', g', sv, a1, a2⟩ := app_new (g := g) (n := m) (y := lVal h.said) (l := h.said) rfl hh.s
    have k2 := ok1_list (a2.own (fun _ => none) []).2.2.1
    simp [b_100_0, hc, a1, k1.k, k1.g, k1.p, k1.c, k2.k, k2.g, k2.p, k2.c]
    exact ⟨v, sv, n', g', rfl, hF.heap a2⟩
  · rintro i v ⟨m, g⟩ hi hF next
    have hc : (i : Int) < h.calls.length := by omega
    have hwr : IntKind.i64.wrap ((i : Int) + 1) = (i : Int) + 1 := wrap_id (by omega) (by omega)
    obtain ⟨c, hcc⟩ : ∃ c, h.calls[i]? = some c := ⟨_, List.getElem?_eq_getElem hi⟩
    have hcl := hh.c c (List.mem_of_getElem? hcc)
    have hix := fun g => idx_ok (g := g) (k := .i64) (w_Call h.calls) (show (0:Int) ≤ i by omega) (by simpa using hc)
    obtain ⟨tv, kv, n1, g1, hcall⟩ := OutC.mk (mt := mt) (snap := false) (f := 115) (as := [aCall c]) (as' := [aCall c]) (G := ⟨m, g⟩) rfl (s_115 (mt := mt) c hcl m)
    obtain ⟨a1, a2, k2, k3⟩ := hcall (.inl rfl)
    obtain ⟨g2, b1, b2⟩ := hF.one a2 (by simp; omega)
    have hlen : (h.calls.take i).length = i := by rw [List.length_take]; omega
    rw [hlen] at b1 b2
    have k1 := hF.ok
    simp [b_100_0, hc, hix, hcc, hwr, a1, b1, k1.k, k1.g, k1.p, k1.c, k2.k, k2.g, k2.p, k2.c, k3.k, k3.g, k3.p, k3.c]
    have ht : h.calls.take (i + 1) = h.calls.take i ++ [c] := by rw [List.take_add_one, hcc]; rfl
    simpa using next (.slice n1 0 (i + 1)) ⟨n1 + 1, g2⟩ (by rw [ht]; exact b2)
end Go.Ai
set_option linter.unusedSimpArgs false
set_option linter.unusedVariables false
namespace Go.Ai
section
variable {p : GProg} {h : GHeap} {l : List Int}
theorem push_said (h : GHeap) (v : GVal) : (pushS h v).said = h.said := by unfold pushS; split <;> rfl
theorem setT_said (h : GHeap) (i a : Nat) (v : GVal) : (setT h i a v).said = h.said := by
  unfold setT
  split
  · split <;> rfl
  · rfl
theorem setPc_said (h : GHeap) (a : Int) : (setPc h a).said = h.said := by unfold setPc; split <;> rfl
theorem unw_said : ∀ (f : Nat) (h : GHeap) (to : Int), (unwS f h to).said = h.said := by
  intro f
  induction f with
  | zero => intro h to; rfl
  | succ f ih =>
    intro h to
    unfold unwS
    split
    · rfl
    · rw [ih, leave_said]
theorem do_said (p : GProg) (op : GOp) (as : List GVal) (h : GHeap) : (doS p op as h).said.length ≤ h.said.length + 1 := by
  by_cases h1 : op.kind = 1
  · rw [doS_1 h1, push_said]; omega
  by_cases h2 : op.kind = 2
  · rw [doS_2 h2, push_said]; omega
  by_cases h3 : op.kind = 3
  · rw [doS_3 h3, setT_said]; omega
  by_cases h5 : op.kind = 5
  · rw [doS_5 h5, push_said]; omega
  by_cases h6 : op.kind = 6
  · rw [doS_6 h6, push_said]; omega
  by_cases h7 : op.kind = 7
  · rw [doS_7 h7, setPc_said]; omega
  by_cases h8 : op.kind = 8
  · rw [doS_8 h8]; split
    · rw [setPc_said]; omega
    · omega
  by_cases h9 : op.kind = 9
  · rw [doS_9 h9]; unfold callS; split
    · show h.said.length ≤ _; omega
    · split
      · show h.said.length ≤ _; omega
      · omega
  by_cases h10 : op.kind = 10
  · rw [doS_10 h10]; unfold retS'
    dsimp only
    split
    · show ((sayS (leaveS h) (arg as 0)).said).length ≤ _
      unfold sayS; rw [List.length_append, leave_said]; simp
    · rw [push_said, leave_said]; omega
  by_cases h11 : op.kind = 11
  · rw [doS_11 h11, push_said]; omega
  by_cases h12 : op.kind = 12
  · rw [doS_12 h12, push_said]; omega
  by_cases h13 : op.kind = 13
  · rw [doS_13 h13, push_said]; omega
  by_cases h14 : op.kind = 14
  · rw [doS_14 h14, setT_said]; omega
  by_cases h15 : op.kind = 15
  · rw [doS_15 h15]; unfold backS; split
    · show h.said.length ≤ _; omega
    · rw [push_said, unw_said]; omega
  by_cases h16 : op.kind = 16
  · rw [doS_16 h16]; unfold sayS; rw [List.length_append]; simp
  by_cases h17 : op.kind = 17
  · rw [doS_17 h17, push_said]; omega
  by_cases h18 : op.kind = 18
  · rw [doS_18 h18, push_said]; omega
  have : doS p op as h = h := by simp [doS, h1, h2, h3, h5, h6, h7, h8, h9, h10, h11, h12, h13, h14, h15, h16, h17, h18]
  rw [this]; omega
theorem step_said (w : WF p h l) (h0 : 0 ≤ h.now) : (stepS p h).said.length ≤ h.said.length + 1 := by
  cases step_in w h0 with
  | none _ _ _ _ _ he => rw [he]; show h.said.length ≤ _; omega
  | few _ _ _ _ _ _ _ _ he => rw [he]; show h.said.length ≤ _; omega
  | kind _ _ _ _ _ _ _ _ _ _ _ _ he => rw [he]; show h.said.length ≤ _; omega
  | done _ _ _ _ _ _ _ _ _ _ _ _ d he => rw [he]; exact do_said _ _ _ _
theorem WF.run0 (w : WF p h l) (hc : h.code = 0) : 0 ≤ h.now := by
  have := w.ends
  have := w.now
  omega
theorem run_wf : ∀ (f : Nat) {h : GHeap} {l : List Int}, WF p h l → ∃ l', WF p (runS p f h) l' := by
  intro f
  induction f with
  | zero => intro h l w; exact ⟨l, w⟩
  | succ f ih =>
    intro h l w
    unfold runS
    split
    · rename_i hc
      obtain ⟨l', w'⟩ := step_wf w (w.run0 hc)
      exact ih w'
    · exact ⟨l, w⟩
theorem run_said : ∀ (f : Nat) {h : GHeap} {l : List Int}, WF p h l → (runS p f h).said.length ≤ h.said.length + f := by
  intro f
  induction f with
  | zero => intro h l w; exact Nat.le_refl _
  | succ f ih =>
    intro h l w
    unfold runS
    split
    · rename_i hc
      obtain ⟨l', w'⟩ := step_wf w (w.run0 hc)
      have := ih w'
      have := step_said w (w.run0 hc)
      omega
    · omega
end
def zeroH : GHeap := ⟨[], 0, 0, [], 0⟩
def runR (p : GProg) (h : GHeap) (steps : Int) : GHeap × Bool := if heapOkS p h = true ∧ inR steps 0 400 = true then (runS p steps.toNat h, true) else (zeroH, false)
def deepS (h : GHeap) : Int := (chain h).length
end Go.Ai
