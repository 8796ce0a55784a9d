/- The program's heap at work: an operation takes its values. The program's heap at work: a step, up to what the operation does. The program's heap at work: each operation. The program's heap at work: looks, calls, returns. The program's heap at work: a step. -/
import Derived.Test.YtbbnjbichjhmoaaGreatD4
set_option linter.unusedSimpArgs false
set_option linter.unusedVariables false
namespace Go.Ai
attribute [local simp] cnd_ite gS_ite callBy_whole
attribute [local simp] inv_0 inv_1 inv_2 inv_3 inv_4 inv_5 inv_6 inv_7 inv_8
/-- Values are of kinds, from one on. -/
def kFrom (as : List GVal) : List Int → Nat → Bool
  | [], _ => true
  | k :: ks, i => (decide (k = -1) || decide ((arg as i).kind = k)) && kFrom as ks (i + 1)
theorem kFrom_eq {op : GOp} (h : 1 ≤ op.kind ∧ op.kind ≤ 18) (as : List GVal) : kFrom as (mKinds op.kind) 0 = kindsS op as := by
  have : op.kind = 1 ∨ op.kind = 2 ∨ op.kind = 3 ∨ op.kind = 4 ∨ op.kind = 5 ∨ op.kind = 6 ∨ op.kind = 7 ∨ op.kind = 8 ∨ op.kind = 9 ∨ op.kind = 10 ∨ op.kind = 11 ∨ op.kind = 12 ∨ op.kind = 13 ∨ op.kind = 14 ∨ op.kind = 15 ∨ op.kind = 16 ∨ op.kind = 17 ∨ op.kind = 18 := by omega
  rcases this with h | h | h | h | h | h | h | h | h | h | h | h | h | h | h | h | h | h <;> simp [mKinds, kindsS, kFrom, h]
theorem mK_len {p : GProg} (hp : progOk p = true) {op : GOp} (h : 1 ≤ op.kind ∧ op.kind ≤ 18) : ((mKinds op.kind).length : Int) ≤ (takesS p op).1 := by
  have ht := (takes_nn hp op).1
  have hn := takes_nil hp op
  have : op.kind = 1 ∨ op.kind = 2 ∨ op.kind = 3 ∨ op.kind = 4 ∨ op.kind = 5 ∨ op.kind = 6 ∨ op.kind = 7 ∨ op.kind = 8 ∨ op.kind = 9 ∨ op.kind = 10 ∨ op.kind = 11 ∨ op.kind = 12 ∨ op.kind = 13 ∨ op.kind = 14 ∨ op.kind = 15 ∨ op.kind = 16 ∨ op.kind = 17 ∨ op.kind = 18 := by omega
  rcases this with h | h | h | h | h | h | h | h | h | h | h | h | h | h | h | h | h | h <;> simp [mKinds, takesS, h] at ht hn ⊢ <;> omega
section
variable {k n : Nat} {Z : Heap'} {A B : List Nat} {o : Nat} {p : GProg} {h : GHeap} {g : Heap'} {ow : Ow} {cv sv : AVal}
variable {ci : Nat} {es : Obj'} {j : Nat} {c : GCall} {tv kv : AVal}
theorem loop_225 (P : R → Prop) (S : List KF) (ks : List Int) (hks : ks.length ≤ 10) (as : List GVal) (has : ks.length ≤ as.length) (v b2 b10 : AVal) (h2 : Ai.kv b2 = b2) (h10 : Ai.kv b10 = b10) (hv : Ok1 v) (m : Nat) (g : Heap') (hix : ∀ i : Nat, i < as.length → ∃ id, idxV 2 v (vi i) g = some (.ptr id i 0) ∧ g id = some (as.map eVal)) :
    ∀ (j i : Nat), i + j = ks.length → (kFrom as (ks.drop i) i = false → ∀ fr : Fr, fr 6 = .nils → fr 7 = .bool false → P (unw AP MT .ret fr ⟨m, g⟩ S)) →
      (kFrom as (ks.drop i) i = true → ∀ fr : Fr, fr 2 = b2 → fr 10 = b10 → fr 11 = v → P (unw AP MT (.exit 0) fr ⟨m, g⟩ S)) →
      ∀ fr : Fr, fr 2 = b2 → fr 10 = b10 → fr 11 = v → (ks ≠ [] → fr 45 = lInt ks) → fr 46 = vi ks.length → fr 47 = vi i → P (evS AP MT (.loop l_225_0) fr ⟨m, g⟩ S) := by
  intro j
  induction j with
  | zero =>
    intro i hij hF hT fr f2 f10 f11 f45 f46 f47
    have hc : ¬ ((i : Int) < ks.length) := by omega
    have hd : ks.drop i = [] := List.drop_eq_nil_iff.2 (by omega)
    rw [hd] at hT
    rw [S_loop]
    simp [u_225_0, b_225_0, f46, f47, hc]
    exact hT rfl _ (by simp [f2, h2]) (by simp [f10, h10]) (by simp [f11, hv.k])
  | succ j ih =>
    intro i hij hF hT fr f2 f10 f11 f45 f46 f47
    have hlt : i < ks.length := by omega
    have hc : (i : Int) < ks.length := by omega
    have f45 := f45 (by intro e; rw [e] at hlt; simp at hlt)
    obtain ⟨x, hx⟩ : ∃ x, ks[i]? = some x := ⟨_, List.getElem?_eq_getElem hlt⟩
    have hixk := fun g => idx_ok (g := g) (k := .i64) (w_Int ks) (show (0:Int) ≤ i by omega) (by simpa using hc)
    have hwr : IntKind.i64.wrap ((i : Int) + 1) = (i : Int) + 1 := wrap_id (by omega) (by omega)
    obtain ⟨id, e1, e2⟩ := hix i (by omega)
    have ha := arg_at (l := as) (i := i) (by omega)
    rw [drop_cons hx] at hF hT
    simp only [kFrom] at hF hT
    rw [S_loop]
    by_cases hm : x = -1
    · simp [hm] at hF hT
      simp [u_225_0, b_225_0, f2, f10, f11, f45, f46, f47, hc, hixk, hx, hm, hv.k, hv.p, h2, h10, hwr]
      exact ih (i + 1) (by omega) hF hT _ (by simp) (by simp) (by simp) (by simp) (by simp) (by simp)
    · by_cases he : (arg as i).kind = x
      · simp [he] at hF hT
        simp [u_225_0, b_225_0, f2, f10, f11, f45, f46, f47, hc, hixk, hx, hm, hv.k, hv.p, h2, h10, hwr, e1, e2, ha, he]
        exact ih (i + 1) (by omega) hF hT _ (by simp) (by simp) (by simp) (by simp) (by simp) (by simp)
      · simp [hm, he] at hF
        simp [u_225_0, b_225_0, f2, f10, f11, f45, f46, f47, hc, hixk, hx, hm, hv.k, hv.p, h2, h10, hwr, e1, e2, ha, he]
        exact hF _ (by simp) (by simp)
theorem frz_src {g : Heap'} {w : AVal} {l : List GVal} (hs : srcOf g w = some (l.map eVal)) : frz 8 g w = some (lVal l) := by
  have hid : omap (omap (frz 7 g)) (l.map eVal) = some (l.map eVal) := omap_id (fun e he => by
    obtain ⟨v, _, rfl⟩ := List.mem_map.1 he
    rfl)
  cases w <;> simp only [srcOf] at hs <;> try (cases hs; done)
  · injection hs with hs
    have : l = [] := List.map_eq_nil_iff.1 hs.symm
    subst this; rfl
  · rename_i id off len
    show ((g id).bind fun es => if off + len ≤ es.length then (omap (omap (frz 7 g)) ((es.drop off).take len)).map AVal.list else none) = _
    cases hg : g id with
    | none => rw [hg] at hs; cases hs
    | some es =>
      rw [hg] at hs
      simp only [Option.bind_some] at hs ⊢
      split at hs
      · rename_i h1
        injection hs with hs
        rw [if_pos h1, hs, hid]; rfl
      · cases hs
  · injection hs with hs
    subst hs; rfl
theorem i_225few (V : VW k Z A B [] o h n g ow ci es sv j c tv kv) (op : GOp) (hop : 1 ≤ op.kind ∧ op.kind ≤ 18) (hp : progOk p = true) (hsl : c.stack.length ≤ 6) (hl : (c.stack.length : Int) - (takesS p op).1 < 0 ∨ 6 < (c.stack.length : Int) - (takesS p op).1 + (takesS p op).2) :
    ∃ N, n ≤ N ∧ run AP MT 225 [aProg p, aOp op, .ptr ci j 3] ⟨n, g⟩ = some (.tuple [.nils, .bool false], ⟨N, g⟩) := by
  have hpl : p.length ≤ 4 := by simp only [progOk, Bool.and_eq_true, inR_iff] at hp; omega
  obtain ⟨N, hN, q⟩ : ∃ N, n ≤ N ∧ callBy (run AP MT) (.alone false true) 237 [aProg p, aOp op] ⟨n, g⟩ = some (.tuple [vi (takesS p op).1, vi (takesS p op).2], ⟨N, g⟩) := ⟨_, nxt_le, m_237 (mt := MT) p op (by omega) hop ⟨n, g⟩⟩
  have tn := takes_nn hp op
  have hln := own_len V.s
  simp only [List.length_map] at hln
  have hk0 := ok1_list V.s
  have hwr : IntKind.i64.wrap ((c.stack.length : Int) - (takesS p op).1) = (c.stack.length : Int) - (takesS p op).1 := wrap_id (by omega) (by omega)
  have hwr2 : IntKind.i64.wrap ((c.stack.length : Int) - (takesS p op).1 + (takesS p op).2) = (c.stack.length : Int) - (takesS p op).1 + (takesS p op).2 := wrap_id (by omega) (by omega)
  refine ⟨N, hN, ?_⟩
  rw [run_evS AP_225 _ _ rfl]
  by_cases hneg : (c.stack.length : Int) - (takesS p op).1 < 0
  · simp [-lenV, c_225, q, V.Hc, V.He, hln, hk0.k, hk0.g, hk0.p, hwr, hwr2, hneg]
  · have hneg2 : 6 < (c.stack.length : Int) - (takesS p op).1 + (takesS p op).2 := by omega
    simp [-lenV, c_225, q, V.Hc, V.He, hln, hk0.k, hk0.g, hk0.p, hwr, hwr2, hneg, hneg2]
/-- Values taken: a list of their own. -/
def Vals (k o : Nat) (g : Heap') (ow : Ow) (l : List GVal) (v : AVal) : Prop := (l = [] ∧ v = .nils) ∨ (l ≠ [] ∧ ∃ id, v = .slice id 0 l.length ∧ g id = some (l.map eVal) ∧ ow id = none ∧ id ≠ o ∧ k ≤ id)
def Took (k : Nat) (Z : Heap') (A B : List Nat) (o : Nat) (h : GHeap) (n : Nat) (g : Heap') (ci : Nat) (sv : AVal) (j : Nat) (c : GCall) (tv : AVal) (kk : Nat) (b : Bool) (x : R) : Prop :=
  if b = true then ∃ v n' g' ow' es' kv', x = some (.tuple [v, .bool true], ⟨n', g'⟩) ∧ n ≤ n' ∧ VW k Z A B [] o (setC h j { c with stack := c.stack.take kk }) n' g' ow' ci es' sv j { c with stack := c.stack.take kk } tv kv' ∧ Vals k o g' ow' (c.stack.drop kk) v
  else ∃ N g', x = some (.tuple [.nils, .bool false], ⟨N, g'⟩) ∧ n ≤ N ∧ (∀ id, id < n → g' id = g id) ∧ (noImmO g → noImmO g')
theorem i_225 (V : VW k Z A B [] o h n g ow ci es sv j c tv kv) (op : GOp) (hop : 1 ≤ op.kind ∧ op.kind ≤ 18) (hp : progOk p = true) (hsl : c.stack.length ≤ 6) (kk : Nat) (hk : (kk : Int) = (c.stack.length : Int) - (takesS p op).1) (hl : (kk : Int) + (takesS p op).2 ≤ 6) :
    Took k Z A B o h n g ci sv j c tv kk (kindsS op (c.stack.drop kk)) (run AP MT 225 [aProg p, aOp op, .ptr ci j 3] ⟨n, g⟩) := by
  have hpl : p.length ≤ 4 := by simp only [progOk, Bool.and_eq_true, inR_iff] at hp; omega
  obtain ⟨N, hN, q⟩ : ∃ N, n ≤ N ∧ callBy (run AP MT) (.alone false true) 237 [aProg p, aOp op] ⟨n, g⟩ = some (.tuple [vi (takesS p op).1, vi (takesS p op).2], ⟨N, g⟩) := ⟨_, nxt_le, m_237 (mt := MT) p op (by omega) hop ⟨n, g⟩⟩
  have tn := takes_nn hp op
  have hln := own_len V.s
  simp only [List.length_map] at hln
  have hk0 := ok1_list V.s
  have V0 := V.keep (n' := N) (g' := g) hN (fun _ _ => rfl)
  have hkl : kk ≤ c.stack.length := by omega
  have hkr : (c.stack.length : Int) - (takesS p op).1 = kk := hk.symm
  have hwr : IntKind.i64.wrap ((c.stack.length : Int) - (takesS p op).1) = kk := by rw [wrap_id (by omega) (by omega)]; omega
  have hwr2 : IntKind.i64.wrap ((kk : Int) + (takesS p op).2) = kk + (takesS p op).2 := wrap_id (by omega) (by omega)
  have hneg : ¬ ((kk : Int) < 0) := by omega
  have hneg2 : ¬ (6 < (kk : Int) + (takesS p op).2) := by omega
  obtain ⟨w1, e1, e2, e3⟩ := sl_from V.s hkl
  obtain ⟨v1, n1, g1, a1, a2⟩ := call_48 (mt := MT) (a := w1) (l := c.stack.drop kk) (by simp; omega) (n := N) (g := g) (frz_src e2)
  obtain ⟨y1, y2, y3, y4, y5⟩ := a2.own (fun _ => none) []
  have hv1 := ok1_list y3
  have V1 := V0.keep (n' := n1) (g' := g1) y1 (fun id hid => y4 id (by omega)) (fun _ => y5)
  obtain ⟨N2, hN2, q2⟩ : ∃ N2, n1 ≤ N2 ∧ callBy (run AP MT) (.alone false true) 122 [] ⟨n1, g1⟩ = some (.list mT, ⟨N2, g1⟩) := ⟨_, nxt_le, m_122 (mt := MT) ⟨n1, g1⟩⟩
  have V2 := V1.keep (n' := N2) (g' := g1) hN2 (fun _ _ => rfl)
  obtain ⟨sa, d, t1, t2⟩ := mT_full op.kind hop
  have hixT := fun g => idx_ok (g := g) (k := .i64) w_mT (show (0:Int) ≤ op.kind by omega) (by show op.kind < ((19 : Nat) : Int); omega)
  have hd : lenV d = some (vi (mKinds op.kind).length) ∧ Ai.kv d = d ∧ (∀ t, pv t d = d) ∧ (mKinds op.kind ≠ [] → d = lInt (mKinds op.kind)) := by
    rcases t2 with rfl | ⟨rfl, e⟩
    · exact ⟨by simp [lenV], rfl, fun _ => rfl, fun _ => rfl⟩
    · rw [e]; exact ⟨rfl, rfl, fun _ => rfl, fun h => absurd rfl h⟩
  have hml := mK_len hp hop
  have hix : ∀ i : Nat, i < (c.stack.drop kk).length → ∃ id, idxV 2 v1 (vi i) g1 = some (.ptr id i 0) ∧ g1 id = some ((c.stack.drop kk).map eVal) := by
    intro i hi
    obtain ⟨ti, x, f1, f2, _⟩ := own_idx y3 (a := (i : Int)) (by omega) (by omega)
    exact ⟨ti, by simpa using f1, f2⟩
  have hkf := kFrom_eq hop (c.stack.drop kk)
  rw [run_evS AP_225 _ _ rfl]
  simp [-lenV, -List.map_drop, -List.map_take, c_225, q, V.Hc, V.He, hln, hk0.k, hk0.g, hk0.p, hwr, hwr2, hneg, hneg2, e1, e3.k, e3.g, e3.p, a1, hv1.k, hv1.g, hv1.p, q2, hixT, t1, hd.1, hd.2.1, hd.2.2.1]
  refine loop_225 (P := Took k Z A B o h n g ci sv j c tv kk (kindsS op (c.stack.drop kk))) _ (mKinds op.kind) (by omega) (c.stack.drop kk) (by rw [List.length_drop]; omega) v1 (.ptr ci j 3) (vi kk) rfl rfl hv1 N2 g1 hix (mKinds op.kind).length 0 (by omega) (fun hF fr f6 f7 => ?_) (fun hT fr f2 f10 f11 => ?_) _ (by simp) (by simp) (by simp) (by simpa using hd.2.2.2) (by simp) (by simp)
  · rw [List.drop_zero, hkf] at hF
    rw [hF]
    simp [f6, f7]
    exact ⟨N2, g1, rfl, by omega, fun id hid => y4 id (by omega), y5⟩
  · rw [List.drop_zero, hkf] at hT
    rw [hT]
    obtain ⟨w2, x1, x2, x3⟩ := sl_to V2.s hkl
    obtain ⟨v3, n3, g3, x4, x5⟩ := call_48 (mt := MT) (a := w2) (l := c.stack.take kk) (by simp; omega) (n := N2) (g := g1) (frz_src x2)
    obtain ⟨u1, u2, u3, u4, u5⟩ := x5.own ow (A ++ [j, 3])
    obtain ⟨z1, z2, z3, g4, es4, ow4, z4, z5, V4, z6⟩ := V2.stk { c with stack := c.stack.take kk } u1 u2 (fun id hid _ => u4 id hid) u3 (by
      rcases x5 with ⟨_, e, _, _⟩ | ⟨_, _, e, _⟩
      · exact fun _ => e
      · intro e'; omega) rfl (fun _ => u5)
    have hk2 := ok1_list V2.s
    simp [-List.map_drop, -List.map_take, f2, f10, f11, V2.Hc, V2.He, hk2.k, hk2.g, hk2.p, x1, x3.k, x3.g, x3.p, x4, z1, z3.k, z3.g, z3.p, z3.c, z4, z5, hv1.k, hv1.g, hv1.p]
    refine ⟨v1, n3, g4, ow4, es4, v3, rfl, by omega, V4, ?_⟩
    rcases a2 with ⟨b1, b2, _, _⟩ | ⟨b1, b2, rfl, rfl⟩
    · exact .inl ⟨b1, b2⟩
    · have hNo := V.W.ok.2
      have hNc := V.W.lt V.wi
      have hoN : ow N = none := by
        cases hx : ow N with
        | none => rfl
        | some q => have := V.W.lt hx; omega
      refine .inr ⟨b1, N, b2, ?_, by rw [z6 N (by omega)]; exact hoN, by omega, by have := V.W.kn; omega⟩
      rw [← z5]
      simp only [updO]
      rw [if_neg (by omega), u4 N (by omega)]
      simp [updO]
end
end Go.Ai
set_option linter.unusedSimpArgs false
set_option linter.unusedVariables false
namespace Go.Ai
attribute [local simp] cnd_ite gS_ite callBy_whole
attribute [local simp] inv_0 inv_1 inv_2 inv_3 inv_4 inv_5 inv_6 inv_7 inv_8
section
variable {k n : Nat} {Z : Heap'} {A B : List Nat} {o : Nat} {p : GProg} {h : GHeap} {g : Heap'} {ow : Ow} {cv sv : AVal}
variable {ci : Nat} {es : Obj'} {j : Nat} {c : GCall} {tv kv : AVal}
/-- What belongs to nobody may go. -/
theorem VW.drop (V : VW k Z A B [] o h n g ow ci es sv j c tv kv) {id : Nat} (h1 : ow id = none) (h2 : id ≠ o) (h3 : k ≤ id) : VW k Z A B [] o h n (updO g id none) ow ci es sv j c tv kv := by
  have K : ∀ P, Keep g ow (updO g id none) ow P := fun P => Keep.refl.upd (fun q hq => by rw [h1] at hq; cases hq)
  have hci : id ≠ ci := by rintro rfl; rw [V.wi] at h1; cases h1
  refine ⟨⟨V.W.dj, ?_, V.W.on, V.W.ok, V.W.c.mono (K _), V.W.s.mono (K _), V.W.f, fun i hi => ?_, fun hp => ni_none (V.W.ni hp)⟩, V.hj, ?_, V.wi, V.el, V.He, V.t.mono (K _), V.s.mono (K _)⟩
  · simp only [updO]; rw [if_neg (Ne.symm h2)]; exact V.W.Ho
  · simp only [updO]; rw [if_neg (by omega)]; exact V.W.z i hi
  · simp only [updO]; rw [if_neg (Ne.symm hci)]; exact V.Hc
theorem Vals.fz {l : List GVal} {v : AVal} (V : VW k Z A B [] o h n g ow ci es sv j c tv kv) (hv : Vals k o g ow l v) : ∃ g', fzV v ⟨n, g⟩ = some (lVal l, ⟨n, g'⟩) ∧ VW k Z A B [] o h n g' ow ci es sv j c tv kv := by
  rcases hv with ⟨rfl, rfl⟩ | ⟨hne, id, rfl, h1, h2, h3, h4⟩
  · exact ⟨g, rfl, V⟩
  · refine ⟨updO g id none, ?_, V.drop h2 h3 h4⟩
    have e : (l.map eVal).take l.length = l.map eVal := List.take_of_length_le (by simp)
    simp [fzV, h1, e]
theorem Vals.ok {k o : Nat} {g : Heap'} {ow : Ow} {l : List GVal} {v : AVal} (h : Vals k o g ow l v) : Ok1 v := by
  rcases h with ⟨_, rfl⟩ | ⟨_, id, rfl, _⟩ <;> exact ⟨rfl, rfl, fun _ => rfl, rfl⟩
theorem m_36h {mt : Nat → Nat → Option Nat} (p : GProg) (mi pc : Int) (m : GMethod) (hm0 : 0 ≤ mi ∧ mi < p.length) (hm : p[mi.toNat]? = some m) (hpc : 0 ≤ pc) (hml : m.ops.length ≤ 2097152) : Q mt 36 [aProg p, vi mi, vi pc] (match m.ops[pc.toNat]? with | some o => .tuple [aOp o, .bool true] | none => .tuple [aOp ⟨0, 0⟩, .bool false]) := by
  have q2 := fun a b c => r_66 (mt := mt) a b c
  unfold Q at q2
  have hix := fun g => idx_ok (g := g) (k := .i64) (w_Method p) hm0.1 (by simpa using hm0.2)
  have hwr : IntKind.i64.wrap ((m.ops.length : Int) - 1) = m.ops.length - 1 := wrap_id (by omega) (by omega)
  refine Q.of rfl (fun k => ?_)
  rw [run_evS AP_36 _ _ rfl]
  cases ho : m.ops[pc.toNat]? with
  | none =>
    have hr : inR pc 0 ((m.ops.length : Int) - 1) = false := by
      have := List.getElem?_eq_none_iff.1 ho
      cases hx : inR pc 0 ((m.ops.length : Int) - 1)
      · rfl
      · have := inR_iff.1 hx; omega
    simp [c_36, hix, hm, hwr, q2, hr]
    exact Gv.some (by repeat (first | exact Nat.le_refl _ | apply le_nxt)) rfl
  | some op =>
    have hlt := (List.getElem?_eq_some_iff.1 ho).1
    have hr : inR pc 0 ((m.ops.length : Int) - 1) = true := inR_iff.2 (by omega)
    have hixo := fun g => idx_ok (g := g) (k := .i64) (w_Op m.ops) hpc (by simp; omega)
    simp [c_36, hix, hm, hwr, q2, hr, hixo, ho]
    exact Gv.some (by repeat (first | exact Nat.le_refl _ | apply le_nxt)) rfl
/-- What is known where the program's step comes to its operation. -/
structure Pr (k : Nat) (Z : Heap') (A B : List Nat) (o : Nat) (p : GProg) (h : GHeap) (n : Nat) (g : Heap') (op : GOp) (as : List GVal) (h1 : GHeap) (c c1 : GCall) (ci : Nat) (sv tv kv : AVal) (ow : Ow) (es : Obj') (N : Nat) (v : AVal) (n1 : Nat) (g1 g2 : Heap') (es2 es3 : Obj') (g3 : Heap') (ow3 : Ow) (kv3 : AVal) (sk : List GVal) (pc1 : Int) : Prop where
  V : VW k Z A B [] o h n g ow ci es sv h.now.toNat c tv kv
  hr : run AP MT 247 [.ptr o 0 0] ⟨n, g⟩ = some (.tuple [vi c.method, .ptr ci h.now.toNat 1, tv, .ptr ci h.now.toNat 3], ⟨n, g⟩)
  q : callBy (run AP MT) (.alone false true) 36 [aProg p, vi c.method, vi c.pc] ⟨n, g⟩ = some (.tuple [.agg [vi op.kind, vi op.a], .bool true], ⟨N, g⟩)
  t : run AP MT 225 [aProg p, .agg [vi op.kind, vi op.a], .ptr ci h.now.toNat 3] ⟨N, g⟩ = some (.tuple [v, .bool true], ⟨n1, g1⟩)
  f : fzV v ⟨n1, g1⟩ = some (lVal as, ⟨n1, g2⟩)
  ok : Ok1 v
  c2 : g2 ci = some es2
  e2 : es2[h.now.toNat]? = some [vi c.method, vi c.pc, tv, kv3, vi c.sender, .bool c.dead]
  wr : IntKind.i64.wrap (c.pc + 1) = c.pc + 1
  r : stH 1 h.now.toNat 1 [vi (c.pc + 1)] (some es2) = some es3
  u : updO g2 ci (some es3) = g3
  V3 : VW k Z A B [] o h1 n1 g3 ow3 ci es3 sv h.now.toNat c1 tv kv3
  nw : h1.now = h.now
end
end Go.Ai
set_option linter.unusedSimpArgs false
set_option linter.unusedVariables false
namespace Go.Ai
attribute [local simp] cnd_ite gS_ite callBy_whole
attribute [local simp] inv_0 inv_1 inv_2 inv_3 inv_4 inv_5 inv_6 inv_7 inv_8
section
variable {k n : Nat} {Z : Heap'} {A B : List Nat} {o : Nat} {p : GProg} {h h1 : GHeap} {g : Heap'} {ow : Ow} {c c1 : GCall} {ci : Nat} {sv tv kv : AVal} {es : Obj'} {N : Nat} {v : AVal} {n1 : Nat} {g1 g2 g3 : Heap'} {es2 es3 : Obj'} {ow3 : Ow} {kv3 : AVal} {sk : List GVal} {pc1 : Int} {as : List GVal} {l : List Int} {m : GMethod} {op : GOp}
/-- What the step answers: the code, and the heap but for the code. -/
def ToC (k : Nat) (Z : Heap') (A B : List Nat) (o : Nat) (h' : GHeap) (x : R) : Prop := ∃ hx code, { hx with code := code } = h' ∧ To k Z A B [] o hx (vi code) x
theorem toC {h' : GHeap} {x : R} (hc : h'.code = 0) (t : To k Z A B [] o h' (vi 0) x) : ToC k Z A B o h' x := ⟨h', 0, by rw [← hc], t⟩
theorem push_code (h : GHeap) (v : GVal) : (pushS h v).code = h.code := by unfold pushS; split <;> rfl
theorem setT_code (h : GHeap) (i a : Nat) (v : GVal) : (setT h i a v).code = h.code := by
  unfold setT
  split
  · split <;> rfl
  · rfl
theorem setPc_code (h : GHeap) (a : Int) : (setPc h a).code = h.code := by unfold setPc; split <;> rfl
theorem leave_code (h : GHeap) : (leaveS h).code = h.code := by
  cases hc : h.calls[h.now.toNat]? with
  | none => unfold leaveS; rw [hc]
  | some c => rw [leave_eq hc]; rfl
theorem i_206_1 {a : Int} (P : Pr k Z A B o p h n g ⟨1, a⟩ as h1 c c1 ci sv tv kv ow es N v n1 g1 g2 es2 es3 g3 ow3 kv3 sk pc1) (d : Din p ⟨1, a⟩ as h1 l c1 m) (hs : h1.said.length ≤ 4294967296) (hc : h1.code = 0) : ToC k Z A B o (doS p ⟨1, a⟩ as h1) (run AP MT 206 [aProg p, eH o] ⟨n, g⟩) := by
  have V3 := P.V3
  rw [← P.nw] at V3
  have htv := ok1_list V3.t
  have q := P.q
  have t := P.t
  dsimp only at q t
  have hsl := d.f.sl
  obtain ⟨N2, hN2, q2⟩ : ∃ N2, n1 ≤ N2 ∧ callBy (run AP MT) (.alone false true) 227 [vi a] ⟨n1, g3⟩ = some (aVal (numV a), ⟨N2, g3⟩) := ⟨_, nxt_le, q_227 (mt := MT) a ⟨n1, g3⟩⟩
  have V4 := V3.keep (n' := N2) (g' := g3) hN2 (fun _ _ => rfl)
  obtain ⟨n5, g5, ow5, cv5, sv5, e5, W5⟩ := i_226 V4 d.h0 (by omega) (numV a)
  dsimp only [numV] at q2 e5
  rw [doS_1 rfl, run_evS AP_206 _ _ rfl]
  dsimp only
  refine toC (by rw [push_code]; exact hc) ?_
  simp [c_206, P.hr, P.V.Hc, P.V.He, q, t, P.f, P.ok.k, P.ok.g, P.ok.p, htv.k, htv.g, htv.p, P.c2, P.e2, P.wr, P.r, P.u, q2, e5]
  exact ⟨_, _, _, _, _, rfl, W5⟩
theorem i_206_2 {a : Int} (P : Pr k Z A B o p h n g ⟨2, a⟩ as h1 c c1 ci sv tv kv ow es N v n1 g1 g2 es2 es3 g3 ow3 kv3 sk pc1) (d : Din p ⟨2, a⟩ as h1 l c1 m) (hs : h1.said.length ≤ 4294967296) (hc : h1.code = 0) : ToC k Z A B o (doS p ⟨2, a⟩ as h1) (run AP MT 206 [aProg p, eH o] ⟨n, g⟩) := by
  have V3 := P.V3
  rw [← P.nw] at V3
  have htv := ok1_list V3.t
  have q := P.q
  have t := P.t
  dsimp only at q t
  have hsl := d.f.sl
  have ha := d.op2 (.inl rfl)
  dsimp only at ha
  obtain ⟨ti, x, e1, e2, e3⟩ := own_idx V3.t ha.1 ha.2
  have ht : tempAt h1 a = x := by unfold tempAt; rw [d.hc]; simp [e3]
  obtain ⟨n5, g5, ow5, cv5, sv5, e5, W5⟩ := i_226 V3 d.h0 (by omega) (x)
  rw [doS_2 rfl, run_evS AP_206 _ _ rfl]
  dsimp only
  rw [ht]
  refine toC (by rw [push_code]; exact hc) ?_
  simp [c_206, P.hr, P.V.Hc, P.V.He, q, t, P.f, P.ok.k, P.ok.g, P.ok.p, htv.k, htv.g, htv.p, P.c2, P.e2, P.wr, P.r, P.u, e1, e2, e3, e5]
  exact ⟨_, _, _, _, _, rfl, W5⟩
theorem i_206_3 {a : Int} (P : Pr k Z A B o p h n g ⟨3, a⟩ as h1 c c1 ci sv tv kv ow es N v n1 g1 g2 es2 es3 g3 ow3 kv3 sk pc1) (d : Din p ⟨3, a⟩ as h1 l c1 m) (hs : h1.said.length ≤ 4294967296) (hc : h1.code = 0) : ToC k Z A B o (doS p ⟨3, a⟩ as h1) (run AP MT 206 [aProg p, eH o] ⟨n, g⟩) := by
  have V3 := P.V3
  rw [← P.nw] at V3
  have htv := ok1_list V3.t
  have q := P.q
  have t := P.t
  dsimp only at q t
  have hsl := d.f.sl
  have hi0 := idx_arg as 0 (by have := d.al; simp [takesS] at this; omega)
  obtain ⟨hv0, ha0⟩ := d.arg (i := 0) (by simp [takesS])
  simp at hi0
  have ha := d.op2 (.inr rfl)
  dsimp only at ha
  obtain ⟨ti, ts, rfl, e2, rfl, g4, e3, V4⟩ := V3.temp a.toNat (by omega) (arg as 0)
  have hti : (c1.temps.map eVal)[a.toNat]? = some (eVal (c1.temps[a.toNat]'(by omega))) := by rw [List.getElem?_map, List.getElem?_eq_getElem (by omega)]; rfl
  have ei := idx_slice (z := 2) (off := 0) (len := c1.temps.length) (k := .i64) (n := a) ha.1 (by omega) e2 (by rw [Nat.zero_add]; exact hti) rfl
  simp at ei
  have hst : stH 2 a.toNat 0 [vi (arg as 0).kind, vi (arg as 0).num] (some (c1.temps.map eVal)) = some ((c1.temps.map eVal).set a.toNat [vi (arg as 0).kind, vi (arg as 0).num]) := stH_ok hti ⟨rfl, by simp⟩
  have hT : setT h1 h1.now.toNat a.toNat (arg as 0) = setC h1 h1.now.toNat { c1 with temps := c1.temps.set a.toNat (arg as 0) } := by unfold setT; rw [d.hc]; simp only []; rw [if_pos (by omega)]
  rw [doS_3 rfl, run_evS AP_206 _ _ rfl]
  dsimp only
  refine toC (by rw [setT_code]; exact hc) ?_
  rw [hT]
  have W5 := V4.W
  simp [c_206, P.hr, P.V.Hc, P.V.He, q, t, P.f, P.ok.k, P.ok.g, P.ok.p, htv.k, htv.g, htv.p, P.c2, P.e2, P.wr, P.r, P.u, hi0, ha0, ei, e2, hst, e3]
  exact ⟨_, _, _, _, _, rfl, W5⟩
theorem i_206_4 {a : Int} (P : Pr k Z A B o p h n g ⟨4, a⟩ as h1 c c1 ci sv tv kv ow es N v n1 g1 g2 es2 es3 g3 ow3 kv3 sk pc1) (d : Din p ⟨4, a⟩ as h1 l c1 m) (hs : h1.said.length ≤ 4294967296) (hc : h1.code = 0) : ToC k Z A B o (doS p ⟨4, a⟩ as h1) (run AP MT 206 [aProg p, eH o] ⟨n, g⟩) := by
  have V3 := P.V3
  rw [← P.nw] at V3
  have htv := ok1_list V3.t
  have q := P.q
  have t := P.t
  dsimp only at q t
  have hsl := d.f.sl
  rw [doS_4 rfl, run_evS AP_206 _ _ rfl]
  refine toC hc ?_
  have W5 := V3.W
  simp [c_206, P.hr, P.V.Hc, P.V.He, q, t, P.f, P.ok.k, P.ok.g, P.ok.p, htv.k, htv.g, htv.p, P.c2, P.e2, P.wr, P.r, P.u]
  exact ⟨_, _, _, _, _, rfl, W5⟩
theorem i_206_5 {a : Int} (P : Pr k Z A B o p h n g ⟨5, a⟩ as h1 c c1 ci sv tv kv ow es N v n1 g1 g2 es2 es3 g3 ow3 kv3 sk pc1) (d : Din p ⟨5, a⟩ as h1 l c1 m) (hs : h1.said.length ≤ 4294967296) (hc : h1.code = 0) : ToC k Z A B o (doS p ⟨5, a⟩ as h1) (run AP MT 206 [aProg p, eH o] ⟨n, g⟩) := by
  have V3 := P.V3
  rw [← P.nw] at V3
  have htv := ok1_list V3.t
  have q := P.q
  have t := P.t
  dsimp only at q t
  have hsl := d.f.sl
  have hi0 := idx_arg as 0 (by have := d.al; simp [takesS] at this; omega)
  obtain ⟨hv0, ha0⟩ := d.arg (i := 0) (by simp [takesS])
  simp at hi0
  have hi1 := idx_arg as 1 (by have := d.al; simp [takesS] at this; omega)
  obtain ⟨hv1, ha1⟩ := d.arg (i := 1) (by simp [takesS])
  simp at hi1
  have hv0' := valOk_iff.1 hv0
  have hv1' := valOk_iff.1 hv1
  have hkk := d.kinds
  simp [kindsS] at hkk
  have hwr : IntKind.i64.wrap ((arg as 0).num + (arg as 1).num) = (arg as 0).num + (arg as 1).num := wrap_id (by omega) (by omega)
  obtain ⟨N2, hN2, q2⟩ : ∃ N2, n1 ≤ N2 ∧ callBy (run AP MT) (.alone false true) 227 [vi (((arg as 0).num + (arg as 1).num).tmod 1000)] ⟨n1, g3⟩ = some (aVal (numV (((arg as 0).num + (arg as 1).num).tmod 1000)), ⟨N2, g3⟩) := ⟨_, nxt_le, q_227 (mt := MT) _ ⟨n1, g3⟩⟩
  have V4 := V3.keep (n' := N2) (g' := g3) hN2 (fun _ _ => rfl)
  obtain ⟨n5, g5, ow5, cv5, sv5, e5, W5⟩ := i_226 V4 d.h0 (by omega) (numV (((arg as 0).num + (arg as 1).num).tmod 1000))
  dsimp only [numV] at q2 e5
  rw [doS_5 rfl, run_evS AP_206 _ _ rfl]
  refine toC (by rw [push_code]; exact hc) ?_
  simp [c_206, P.hr, P.V.Hc, P.V.He, q, t, P.f, P.ok.k, P.ok.g, P.ok.p, htv.k, htv.g, htv.p, P.c2, P.e2, P.wr, P.r, P.u, hi0, ha0, hi1, ha1, hwr, q2, e5]
  exact ⟨_, _, _, _, _, rfl, W5⟩
theorem i_206_6 {a : Int} (P : Pr k Z A B o p h n g ⟨6, a⟩ as h1 c c1 ci sv tv kv ow es N v n1 g1 g2 es2 es3 g3 ow3 kv3 sk pc1) (d : Din p ⟨6, a⟩ as h1 l c1 m) (hs : h1.said.length ≤ 4294967296) (hc : h1.code = 0) : ToC k Z A B o (doS p ⟨6, a⟩ as h1) (run AP MT 206 [aProg p, eH o] ⟨n, g⟩) := by
  have V3 := P.V3
  rw [← P.nw] at V3
  have htv := ok1_list V3.t
  have q := P.q
  have t := P.t
  dsimp only at q t
  have hsl := d.f.sl
  have hi0 := idx_arg as 0 (by have := d.al; simp [takesS] at this; omega)
  obtain ⟨hv0, ha0⟩ := d.arg (i := 0) (by simp [takesS])
  simp at hi0
  have hi1 := idx_arg as 1 (by have := d.al; simp [takesS] at this; omega)
  obtain ⟨hv1, ha1⟩ := d.arg (i := 1) (by simp [takesS])
  simp at hi1
  have hd : (decide ((arg as 0).kind = (arg as 1).kind) && decide ((arg as 0).num = (arg as 1).num)) = decide (arg as 0 = arg as 1) := by
    rw [Bool.eq_iff_iff]
    simp only [Bool.and_eq_true, decide_eq_true_eq]
    exact ⟨fun ⟨a, b⟩ => by cases h0 : arg as 0; cases h1 : arg as 1; rw [h0, h1] at a b; simp at a b; rw [a, b], fun h => by rw [h]; exact ⟨rfl, rfl⟩⟩
  obtain ⟨N2, hN2, q2⟩ : ∃ N2, n1 ≤ N2 ∧ callBy (run AP MT) (.alone false true) 228 [.bool (decide (arg as 0 = arg as 1))] ⟨n1, g3⟩ = some (aVal (bitV (decide (arg as 0 = arg as 1))), ⟨N2, g3⟩) := ⟨_, nxt_le, q_228 (mt := MT) _ ⟨n1, g3⟩⟩
  have V4 := V3.keep (n' := N2) (g' := g3) hN2 (fun _ _ => rfl)
  obtain ⟨n5, g5, ow5, cv5, sv5, e5, W5⟩ := i_226 V4 d.h0 (by omega) (bitV (decide (arg as 0 = arg as 1)))
  rw [doS_6 rfl, run_evS AP_206 _ _ rfl]
  refine toC (by rw [push_code]; exact hc) ?_
  simp [c_206, P.hr, P.V.Hc, P.V.He, q, t, P.f, P.ok.k, P.ok.g, P.ok.p, htv.k, htv.g, htv.p, P.c2, P.e2, P.wr, P.r, P.u, hi0, ha0, hi1, ha1, hd, q2, e5]
  exact ⟨_, _, _, _, _, rfl, W5⟩
theorem i_206_7 {a : Int} (P : Pr k Z A B o p h n g ⟨7, a⟩ as h1 c c1 ci sv tv kv ow es N v n1 g1 g2 es2 es3 g3 ow3 kv3 sk pc1) (d : Din p ⟨7, a⟩ as h1 l c1 m) (hs : h1.said.length ≤ 4294967296) (hc : h1.code = 0) : ToC k Z A B o (doS p ⟨7, a⟩ as h1) (run AP MT 206 [aProg p, eH o] ⟨n, g⟩) := by
  have V3 := P.V3
  rw [← P.nw] at V3
  have htv := ok1_list V3.t
  have q := P.q
  have t := P.t
  dsimp only at q t
  have hsl := d.f.sl
  obtain ⟨g4, es4, e1, e2, V4⟩ := V3.row { c1 with pc := a } kv3 (off := 1) (x := vi a) rfl (by omega) rfl V3.s
  have hP : setPc h1 a = setC h1 h1.now.toNat { c1 with pc := a } := by unfold setPc; rw [d.hc]
  rw [P.nw] at e1
  rw [doS_7 rfl, run_evS AP_206 _ _ rfl]
  dsimp only
  refine toC (by rw [setPc_code]; exact hc) ?_
  rw [hP]
  have W5 := V4.W
  simp [c_206, P.hr, P.V.Hc, P.V.He, q, t, P.f, P.ok.k, P.ok.g, P.ok.p, htv.k, htv.g, htv.p, P.c2, P.e2, P.wr, P.r, P.u, V3.Hc, e1, e2]
  exact ⟨_, _, _, _, _, rfl, W5⟩
end
end Go.Ai
set_option linter.unusedSimpArgs false
set_option linter.unusedVariables false
namespace Go.Ai
attribute [local simp] cnd_ite gS_ite callBy_whole
attribute [local simp] inv_0 inv_1 inv_2 inv_3 inv_4 inv_5 inv_6 inv_7 inv_8
section
variable {k n : Nat} {Z : Heap'} {A B : List Nat} {o : Nat} {p : GProg} {h h1 : GHeap} {g : Heap'} {ow : Ow} {c c1 : GCall} {ci : Nat} {sv tv kv : AVal} {es : Obj'} {N : Nat} {v : AVal} {n1 : Nat} {g1 g2 g3 : Heap'} {es2 es3 : Obj'} {ow3 : Ow} {kv3 : AVal} {sk : List GVal} {pc1 : Int} {as : List GVal} {l : List Int} {m : GMethod} {op : GOp}
theorem i_230 {j : Nat} {a : Int} {K : Int} (hK : K = 13 ∨ K = 14 ∨ K = 17 ∨ K = 18) (V : VW k Z A B [] o h1 n g ow ci es sv h1.now.toNat c tv kv) (d : Din p ⟨K, a⟩ as h1 l c m) : To k Z A B [] o (doS p ⟨K, a⟩ as h1) (.tuple []) (run AP MT 230 [eH o, aOp ⟨K, a⟩, lVal as] ⟨n, g⟩) := by
  have hr := d.call0 (by simp; omega)
  have hsl := d.f.sl
  obtain ⟨d2, hd2⟩ : ∃ d2, h1.calls[(arg as 0).num.toNat]? = some d2 := ⟨_, List.getElem?_eq_getElem (by omega)⟩
  obtain ⟨tv2, kv2, V2⟩ := V.other hd2
  have hlk := i_246 V2 hr.2.1 rfl
  have htv := ok1_list V2.t
  have hln := own_len V2.t
  simp only [List.length_map] at hln
  have hi0 := idx_arg as 0 (by have := d.al; rcases hK with rfl | rfl | rfl | rfl <;> simp [takesS] at this <;> omega)
  obtain ⟨hv0, ha0⟩ := d.arg (i := 0) (by rcases hK with rfl | rfl | rfl | rfl <;> simp [takesS])
  simp at hi0
  have hlook : lookS h1 ⟨K, a⟩ (arg as 0).num = (if K = 13 then (if a < d2.temps.length then (d2.temps[a.toNat]?).getD v0 else v0) else if K = 17 then bitV d2.dead else if K = 18 then numV d2.pc else lookS h1 ⟨K, a⟩ (arg as 0).num) := by
    rcases hK with rfl | rfl | rfl | rfl
    · simp [lookS, hd2]
    · simp
    · simp [lookS, hd2]
    · simp [lookS, hd2]
  rw [run_evS AP_230 _ _ rfl]
  rcases hK with rfl | rfl | rfl | rfl
  · rw [doS_13 rfl, hlook]
    have ha := d.op13 (.inl rfl)
    dsimp only at ha
    by_cases hlt : a < d2.temps.length
    · obtain ⟨ti, x, e1, e2, e3⟩ := own_idx V2.t ha.1 hlt
      obtain ⟨n5, g5, ow5, cv5, sv5, e5, W5⟩ := i_226 V d.h0 (by omega) x
      simp [-lenV, c_230, hi0, ha0, hlk, htv.k, htv.g, htv.p, hln, hlt, e1, e2, e3, e5]
      exact ⟨_, _, _, _, _, rfl, W5⟩
    · obtain ⟨n5, g5, ow5, cv5, sv5, e5, W5⟩ := i_226 V d.h0 (by omega) v0
      simp only [v0] at e5
      simp [-lenV, c_230, hi0, ha0, hlk, htv.k, htv.g, htv.p, hln, hlt, e5]
      exact ⟨_, _, _, _, _, rfl, W5⟩
  · rw [doS_14 rfl]
    have ha := d.op13 (.inr rfl)
    dsimp only at ha
    have hi1 := idx_arg as 1 (by have := d.al; simp [takesS] at this; omega)
    obtain ⟨hv1, ha1⟩ := d.arg (i := 1) (by simp [takesS])
    simp at hi1
    dsimp only
    by_cases hlt : a < d2.temps.length
    · obtain ⟨ti, ts, rfl, e2, rfl, g4, e3, V3⟩ := V2.temp a.toNat (by omega) (arg as 1)
      have hti : (d2.temps.map eVal)[a.toNat]? = some (eVal (d2.temps[a.toNat]'(by omega))) := by rw [List.getElem?_map, List.getElem?_eq_getElem (by omega)]; rfl
      have ei := idx_slice (z := 2) (off := 0) (len := d2.temps.length) (k := .i64) (n := a) ha.1 (by omega) e2 (by rw [Nat.zero_add]; exact hti) rfl
      simp at ei
      have hst : stH 2 a.toNat 0 [vi (arg as 1).kind, vi (arg as 1).num] (some (d2.temps.map eVal)) = some ((d2.temps.map eVal).set a.toNat [vi (arg as 1).kind, vi (arg as 1).num]) := stH_ok hti ⟨rfl, by simp⟩
      have hT : setT h1 (arg as 0).num.toNat a.toNat (arg as 1) = setC h1 (arg as 0).num.toNat { d2 with temps := d2.temps.set a.toNat (arg as 1) } := by unfold setT; rw [hd2]; simp only []; rw [if_pos (by omega)]
      rw [hT]
      simp [c_230, hi0, ha0, hi1, ha1, hlk, hlt, ei, e2, hst, e3]
      exact ⟨_, _, _, _, _, rfl, V3.W⟩
    · have hT : setT h1 (arg as 0).num.toNat a.toNat (arg as 1) = h1 := by unfold setT; rw [hd2]; simp only []; rw [if_neg (by omega)]
      rw [hT]
      simp [-lenV, c_230, hi0, ha0, hlk, htv.k, htv.g, htv.p, hln, hlt]
      exact ⟨_, _, _, _, _, rfl, V.W⟩
  · rw [doS_17 rfl, hlook]
    obtain ⟨N2, hN2, q2⟩ : ∃ N2, n ≤ N2 ∧ callBy (run AP MT) (.alone false true) 228 [.bool d2.dead] ⟨n, g⟩ = some (aVal (bitV d2.dead), ⟨N2, g⟩) := ⟨_, nxt_le, q_228 (mt := MT) _ ⟨n, g⟩⟩
    have V4 := V.keep (n' := N2) (g' := g) hN2 (fun _ _ => rfl)
    obtain ⟨n5, g5, ow5, cv5, sv5, e5, W5⟩ := i_226 V4 d.h0 (by omega) (bitV d2.dead)
    simp [c_230, hi0, ha0, hlk, htv.k, htv.g, htv.p, q2, e5]
    exact ⟨_, _, _, _, _, rfl, W5⟩
  · rw [doS_18 rfl, hlook]
    obtain ⟨N2, hN2, q2⟩ : ∃ N2, n ≤ N2 ∧ callBy (run AP MT) (.alone false true) 227 [vi d2.pc] ⟨n, g⟩ = some (aVal (numV d2.pc), ⟨N2, g⟩) := ⟨_, nxt_le, q_227 (mt := MT) _ ⟨n, g⟩⟩
    have V4 := V.keep (n' := N2) (g' := g) hN2 (fun _ _ => rfl)
    obtain ⟨n5, g5, ow5, cv5, sv5, e5, W5⟩ := i_226 V4 d.h0 (by omega) (numV d2.pc)
    simp [c_230, hi0, ha0, hlk, htv.k, htv.g, htv.p, q2, e5]
    exact ⟨_, _, _, _, _, rfl, W5⟩
theorem i_206_13 {a : Int} (P : Pr k Z A B o p h n g ⟨13, a⟩ as h1 c c1 ci sv tv kv ow es N v n1 g1 g2 es2 es3 g3 ow3 kv3 sk pc1) (d : Din p ⟨13, a⟩ as h1 l c1 m) (hs : h1.said.length ≤ 4294967296) (hc : h1.code = 0) : ToC k Z A B o (doS p ⟨13, a⟩ as h1) (run AP MT 206 [aProg p, eH o] ⟨n, g⟩) := by
  have V3 := P.V3
  rw [← P.nw] at V3
  have htv := ok1_list V3.t
  have q := P.q
  have t := P.t
  dsimp only at q t
  have hsl := d.f.sl
  obtain ⟨n5, g5, ow5, cv5, sv5, e5, W5⟩ := i_230 (j := 0) (K := 13) (by simp) V3 d
  refine toC (by rw [doS_13 rfl, push_code]; exact hc) ?_
  rw [run_evS AP_206 _ _ rfl]
  simp [c_206, P.hr, P.V.Hc, P.V.He, q, t, P.f, P.ok.k, P.ok.g, P.ok.p, htv.k, htv.g, htv.p, P.c2, P.e2, P.wr, P.r, P.u, e5]
  exact ⟨_, _, _, _, _, rfl, W5⟩
theorem i_206_14 {a : Int} (P : Pr k Z A B o p h n g ⟨14, a⟩ as h1 c c1 ci sv tv kv ow es N v n1 g1 g2 es2 es3 g3 ow3 kv3 sk pc1) (d : Din p ⟨14, a⟩ as h1 l c1 m) (hs : h1.said.length ≤ 4294967296) (hc : h1.code = 0) : ToC k Z A B o (doS p ⟨14, a⟩ as h1) (run AP MT 206 [aProg p, eH o] ⟨n, g⟩) := by
  have V3 := P.V3
  rw [← P.nw] at V3
  have htv := ok1_list V3.t
  have q := P.q
  have t := P.t
  dsimp only at q t
  have hsl := d.f.sl
  obtain ⟨n5, g5, ow5, cv5, sv5, e5, W5⟩ := i_230 (j := 0) (K := 14) (by simp) V3 d
  refine toC (by rw [doS_14 rfl, setT_code]; exact hc) ?_
  rw [run_evS AP_206 _ _ rfl]
  simp [c_206, P.hr, P.V.Hc, P.V.He, q, t, P.f, P.ok.k, P.ok.g, P.ok.p, htv.k, htv.g, htv.p, P.c2, P.e2, P.wr, P.r, P.u, e5]
  exact ⟨_, _, _, _, _, rfl, W5⟩
theorem i_206_17 {a : Int} (P : Pr k Z A B o p h n g ⟨17, a⟩ as h1 c c1 ci sv tv kv ow es N v n1 g1 g2 es2 es3 g3 ow3 kv3 sk pc1) (d : Din p ⟨17, a⟩ as h1 l c1 m) (hs : h1.said.length ≤ 4294967296) (hc : h1.code = 0) : ToC k Z A B o (doS p ⟨17, a⟩ as h1) (run AP MT 206 [aProg p, eH o] ⟨n, g⟩) := by
  have V3 := P.V3
  rw [← P.nw] at V3
  have htv := ok1_list V3.t
  have q := P.q
  have t := P.t
  dsimp only at q t
  have hsl := d.f.sl
  obtain ⟨n5, g5, ow5, cv5, sv5, e5, W5⟩ := i_230 (j := 0) (K := 17) (by simp) V3 d
  refine toC (by rw [doS_17 rfl, push_code]; exact hc) ?_
  rw [run_evS AP_206 _ _ rfl]
  simp [c_206, P.hr, P.V.Hc, P.V.He, q, t, P.f, P.ok.k, P.ok.g, P.ok.p, htv.k, htv.g, htv.p, P.c2, P.e2, P.wr, P.r, P.u, e5]
  exact ⟨_, _, _, _, _, rfl, W5⟩
theorem i_206_18 {a : Int} (P : Pr k Z A B o p h n g ⟨18, a⟩ as h1 c c1 ci sv tv kv ow es N v n1 g1 g2 es2 es3 g3 ow3 kv3 sk pc1) (d : Din p ⟨18, a⟩ as h1 l c1 m) (hs : h1.said.length ≤ 4294967296) (hc : h1.code = 0) : ToC k Z A B o (doS p ⟨18, a⟩ as h1) (run AP MT 206 [aProg p, eH o] ⟨n, g⟩) := by
  have V3 := P.V3
  rw [← P.nw] at V3
  have htv := ok1_list V3.t
  have q := P.q
  have t := P.t
  dsimp only at q t
  have hsl := d.f.sl
  obtain ⟨n5, g5, ow5, cv5, sv5, e5, W5⟩ := i_230 (j := 0) (K := 18) (by simp) V3 d
  refine toC (by rw [doS_18 rfl, push_code]; exact hc) ?_
  rw [run_evS AP_206 _ _ rfl]
  simp [c_206, P.hr, P.V.Hc, P.V.He, q, t, P.f, P.ok.k, P.ok.g, P.ok.p, htv.k, htv.g, htv.p, P.c2, P.e2, P.wr, P.r, P.u, e5]
  exact ⟨_, _, _, _, _, rfl, W5⟩
theorem i_206_8 {a : Int} (P : Pr k Z A B o p h n g ⟨8, a⟩ as h1 c c1 ci sv tv kv ow es N v n1 g1 g2 es2 es3 g3 ow3 kv3 sk pc1) (d : Din p ⟨8, a⟩ as h1 l c1 m) (hs : h1.said.length ≤ 4294967296) (hc : h1.code = 0) : ToC k Z A B o (doS p ⟨8, a⟩ as h1) (run AP MT 206 [aProg p, eH o] ⟨n, g⟩) := by
  have V3 := P.V3
  rw [← P.nw] at V3
  have htv := ok1_list V3.t
  have q := P.q
  have t := P.t
  dsimp only at q t
  have hsl := d.f.sl
  have hi0 := idx_arg as 0 (by have := d.al; simp [takesS] at this; omega)
  obtain ⟨hv0, ha0⟩ := d.arg (i := 0) (by simp [takesS])
  simp at hi0
  have hP : setPc h1 a = setC h1 h1.now.toNat { c1 with pc := a } := by unfold setPc; rw [d.hc]
  have hv0' := valOk_iff.1 hv0
  have hz : (arg as 0 = numV 0) ↔ (arg as 0).kind = 1 ∧ (arg as 0).num = 0 := by
    constructor
    · intro e; rw [e]; exact ⟨rfl, rfl⟩
    · rintro ⟨e1, e2⟩; cases hx : arg as 0; rw [hx] at e1 e2; simp at e1 e2; rw [e1, e2]; rfl
  rw [doS_8 rfl, run_evS AP_206 _ _ rfl]
  dsimp only
  refine toC (by split <;> first | exact hc | (rw [setPc_code]; exact hc)) ?_
  by_cases h1' : (arg as 0).kind = 0
  · have hn : (arg as 0).num = 0 := by omega
    obtain ⟨g4, es4, e1, e2, V4⟩ := V3.row { c1 with pc := a } kv3 (off := 1) (x := vi a) rfl (by omega) rfl V3.s
    rw [P.nw] at e1
    rw [if_pos (.inl h1'), hP]
    simp [c_206, P.hr, P.V.Hc, P.V.He, q, t, P.f, P.ok.k, P.ok.g, P.ok.p, htv.k, htv.g, htv.p, P.c2, P.e2, P.wr, P.r, P.u, hi0, ha0, h1', hn, V3.Hc, e1, e2]
    exact ⟨_, _, _, _, _, rfl, V4.W⟩
  · obtain ⟨N2, hN2, q2⟩ : ∃ N2, n1 ≤ N2 ∧ callBy (run AP MT) (.alone false true) 227 [vi 0] ⟨n1, g3⟩ = some (aVal (numV 0), ⟨N2, g3⟩) := ⟨_, nxt_le, q_227 (mt := MT) _ ⟨n1, g3⟩⟩
    have V5 := V3.keep (n' := N2) (g' := g3) hN2 (fun _ _ => rfl)
    obtain ⟨g4, es4, e1, e2, V4⟩ := V5.row { c1 with pc := a } kv3 (off := 1) (x := vi a) rfl (by omega) rfl V5.s
    rw [P.nw] at e1
    dsimp only [numV] at q2
    by_cases h2 : (arg as 0).kind = 1 ∧ (arg as 0).num = 0
    · rw [if_pos (.inr (hz.2 h2)), hP]
      simp [c_206, P.hr, P.V.Hc, P.V.He, q, t, P.f, P.ok.k, P.ok.g, P.ok.p, htv.k, htv.g, htv.p, P.c2, P.e2, P.wr, P.r, P.u, hi0, ha0, h2.1, h2.2, q2, V3.Hc, e1, e2]
      exact ⟨_, _, _, _, _, rfl, V4.W⟩
    · rw [if_neg (fun e => e.elim h1' (fun e => h2 (hz.1 e)))]
      have hb : (decide ((arg as 0).kind = 1) && decide ((arg as 0).num = 0)) = false := by
        rw [Bool.and_eq_false_iff]
        by_cases h3 : (arg as 0).kind = 1
        · right; simp; exact fun e => h2 ⟨h3, e⟩
        · left; simpa using h3
      simp [c_206, P.hr, P.V.Hc, P.V.He, q, t, P.f, P.ok.k, P.ok.g, P.ok.p, htv.k, htv.g, htv.p, P.c2, P.e2, P.wr, P.r, P.u, hi0, ha0, h1', q2, hb]
      exact ⟨_, _, _, _, _, rfl, V5.W⟩
theorem i_206_9 {a : Int} (P : Pr k Z A B o p h n g ⟨9, a⟩ as h1 c c1 ci sv tv kv ow es N v n1 g1 g2 es2 es3 g3 ow3 kv3 sk pc1) (d : Din p ⟨9, a⟩ as h1 l c1 m) (hs : h1.said.length ≤ 4294967296) (hc : h1.code = 0) : ToC k Z A B o (doS p ⟨9, a⟩ as h1) (run AP MT 206 [aProg p, eH o] ⟨n, g⟩) := by
  have V3 := P.V3
  rw [← P.nw] at V3
  have htv := ok1_list V3.t
  have q := P.q
  have t := P.t
  dsimp only at q t
  have hsl := d.f.sl
  have h9 := d.op9 rfl
  dsimp only at h9
  obtain ⟨m', hm⟩ : ∃ m', p[a.toNat]? = some m' := ⟨_, List.getElem?_eq_getElem (by omega)⟩
  have hmo := method_iff.1 (prog_method d.w.prog hm)
  have hal := d.al
  have htk : takesS p ⟨9, a⟩ = (m'.args, 1) := by
    have : inR a 0 (p.length - 1) = true := inR_iff.2 h9
    simp [takesS, this, hm]
  rw [htk] at hal
  have hb := d.w.born
  have hl := d.w.len
  have hfull := i_243 V3.W
  rw [doS_9 rfl, run_evS AP_206 _ _ rfl]
  dsimp only
  by_cases hborn : h1.born = 30
  · have he : callS p h1 a as = { h1 with code := 3 } := by unfold callS; rw [if_pos (by omega)]
    rw [he]
    refine ⟨h1, 3, rfl, ?_⟩
    simp [c_206, P.hr, P.V.Hc, P.V.He, q, t, P.f, P.ok.k, P.ok.g, P.ok.p, htv.k, htv.g, htv.p, P.c2, P.e2, P.wr, P.r, P.u, hfull, hborn]
    exact ⟨_, _, _, _, _, rfl, V3.W⟩
  · obtain ⟨n5, g5, ow5, cv5, sv5, e5, W5⟩ := i_242 V3.W (by omega) (by omega) a m' as ⟨h9.1, by omega⟩ hm (by omega) (by omega)
    refine toC (by unfold callS; rw [if_neg (by omega), hm]; exact hc) ?_
    simp [c_206, P.hr, P.V.Hc, P.V.He, q, t, P.f, P.ok.k, P.ok.g, P.ok.p, htv.k, htv.g, htv.p, P.c2, P.e2, P.wr, P.r, P.u, hfull, hborn, e5]
    exact ⟨_, _, _, _, _, rfl, W5⟩
theorem i_206_10 {a : Int} (P : Pr k Z A B o p h n g ⟨10, a⟩ as h1 c c1 ci sv tv kv ow es N v n1 g1 g2 es2 es3 g3 ow3 kv3 sk pc1) (d : Din p ⟨10, a⟩ as h1 l c1 m) (hs : h1.said.length ≤ 4294967296) (hc : h1.code = 0) : ToC k Z A B o (doS p ⟨10, a⟩ as h1) (run AP MT 206 [aProg p, eH o] ⟨n, g⟩) := by
  have V3 := P.V3
  rw [← P.nw] at V3
  have htv := ok1_list V3.t
  have q := P.q
  have t := P.t
  dsimp only at q t
  have hsl := d.f.sl
  have hi0 := idx_arg as 0 (by have := d.al; simp [takesS] at this; omega)
  obtain ⟨hv0, ha0⟩ := d.arg (i := 0) (by simp [takesS])
  simp at hi0
  have hv0' := valOk_iff.1 hv0
  obtain ⟨ow4, es4, g4, e4, V4⟩ := i_245 V3 d.h0
  have hnow := leave_now d.hc
  have hll := leave_len h1
  have hsd := d.f.sd
  rw [doS_10 rfl, run_evS AP_206 _ _ rfl]
  by_cases hneg : c1.sender < 0
  · have hr : retS' h1 (arg as 0) = { sayS (leaveS h1) (arg as 0) with code := 1 } := by unfold retS'; simp only [hnow, if_pos hneg]
    obtain ⟨n5, g5, ow5, cv5, sv5, e5, W5⟩ := i_229 V4.W (by rw [leave_said]; exact hs) (arg as 0) (fun e => by rw [hll]; omega)
    have hneg' : ¬ (0 ≤ c1.sender) := by omega
    rw [hr]
    refine ⟨sayS (leaveS h1) (arg as 0), 1, rfl, ?_⟩
    simp [c_206, P.hr, P.V.Hc, P.V.He, q, t, P.f, P.ok.k, P.ok.g, P.ok.p, htv.k, htv.g, htv.p, P.c2, P.e2, P.wr, P.r, P.u, hi0, ha0, e4, hneg', e5]
    exact ⟨_, _, _, _, _, rfl, W5⟩
  · have hr : retS' h1 (arg as 0) = pushS (leaveS h1) (arg as 0) := by unfold retS'; simp only [hnow, if_neg hneg]
    obtain ⟨d2, hd2⟩ : ∃ d2, (leaveS h1).calls[c1.sender.toNat]? = some d2 := ⟨_, List.getElem?_eq_getElem (by omega)⟩
    obtain ⟨tv5, kv5, V5⟩ := V4.other hd2
    rw [← hnow] at V5
    have hcl := sh_leave d.w.cl d2 (List.mem_of_getElem? hd2)
    obtain ⟨n5, g5, ow5, cv5, sv5, e5, W5⟩ := i_226 V5 (by rw [hnow]; omega) hcl.2 (arg as 0)
    have hneg' : 0 ≤ c1.sender := by omega
    rw [hr]
    refine toC (by rw [push_code, leave_code]; exact hc) ?_
    simp [c_206, P.hr, P.V.Hc, P.V.He, q, t, P.f, P.ok.k, P.ok.g, P.ok.p, htv.k, htv.g, htv.p, P.c2, P.e2, P.wr, P.r, P.u, hi0, ha0, e4, hneg', e5]
    exact ⟨_, _, _, _, _, rfl, W5⟩
theorem i_206_11 {a : Int} (P : Pr k Z A B o p h n g ⟨11, a⟩ as h1 c c1 ci sv tv kv ow es N v n1 g1 g2 es2 es3 g3 ow3 kv3 sk pc1) (d : Din p ⟨11, a⟩ as h1 l c1 m) (hs : h1.said.length ≤ 4294967296) (hc : h1.code = 0) : ToC k Z A B o (doS p ⟨11, a⟩ as h1) (run AP MT 206 [aProg p, eH o] ⟨n, g⟩) := by
  have V3 := P.V3
  rw [← P.nw] at V3
  have htv := ok1_list V3.t
  have q := P.q
  have t := P.t
  dsimp only at q t
  have hsl := d.f.sl
  obtain ⟨N2, hN2, q2⟩ := i_244 V3.W
  have V4 := V3.keep (n' := N2) (g' := g3) hN2 (fun _ _ => rfl)
  obtain ⟨n5, g5, ow5, cv5, sv5, e5, W5⟩ := i_226 V4 d.h0 (by omega) (⟨2, h1.now⟩)
  rw [doS_11 rfl, run_evS AP_206 _ _ rfl]
  refine toC (by rw [push_code]; exact hc) ?_
  simp [c_206, P.hr, P.V.Hc, P.V.He, q, t, P.f, P.ok.k, P.ok.g, P.ok.p, htv.k, htv.g, htv.p, P.c2, P.e2, P.wr, P.r, P.u, q2, e5]
  exact ⟨_, _, _, _, _, rfl, W5⟩
theorem i_206_12 {a : Int} (P : Pr k Z A B o p h n g ⟨12, a⟩ as h1 c c1 ci sv tv kv ow es N v n1 g1 g2 es2 es3 g3 ow3 kv3 sk pc1) (d : Din p ⟨12, a⟩ as h1 l c1 m) (hs : h1.said.length ≤ 4294967296) (hc : h1.code = 0) : ToC k Z A B o (doS p ⟨12, a⟩ as h1) (run AP MT 206 [aProg p, eH o] ⟨n, g⟩) := by
  have V3 := P.V3
  rw [← P.nw] at V3
  have htv := ok1_list V3.t
  have q := P.q
  have t := P.t
  dsimp only at q t
  have hsl := d.f.sl
  have hi0 := idx_arg as 0 (by have := d.al; simp [takesS] at this; omega)
  obtain ⟨hv0, ha0⟩ := d.arg (i := 0) (by simp [takesS])
  simp at hi0
  have hr := d.call0 (by simp)
  obtain ⟨d2, hd2⟩ : ∃ d2, h1.calls[(arg as 0).num.toNat]? = some d2 := ⟨_, List.getElem?_eq_getElem (by omega)⟩
  obtain ⟨tv2, kv2, V2⟩ := V3.other hd2
  obtain ⟨N2, hN2, q2⟩ := i_249 V2 hr.2.1 rfl
  have hlk : lookS h1 ⟨12, a⟩ (arg as 0).num = (if 0 ≤ d2.sender then ⟨2, d2.sender⟩ else v0) := by simp [lookS, hd2]
  have V4 := V3.keep (n' := N2) (g' := g3) hN2 (fun _ _ => rfl)
  rw [doS_12 rfl, hlk]
  generalize (if 0 ≤ d2.sender then (⟨2, d2.sender⟩ : GVal) else v0) = X at *
  obtain ⟨n5, g5, ow5, cv5, sv5, e5, W5⟩ := i_226 V4 d.h0 (by omega) (X)
  rw [run_evS AP_206 _ _ rfl]
  refine toC (by rw [push_code]; exact hc) ?_
  simp [c_206, P.hr, P.V.Hc, P.V.He, q, t, P.f, P.ok.k, P.ok.g, P.ok.p, htv.k, htv.g, htv.p, P.c2, P.e2, P.wr, P.r, P.u, hi0, ha0, q2, e5]
  exact ⟨_, _, _, _, _, rfl, W5⟩
theorem i_206_15 {a : Int} (P : Pr k Z A B o p h n g ⟨15, a⟩ as h1 c c1 ci sv tv kv ow es N v n1 g1 g2 es2 es3 g3 ow3 kv3 sk pc1) (d : Din p ⟨15, a⟩ as h1 l c1 m) (hs : h1.said.length ≤ 4294967296) (hc : h1.code = 0) : ToC k Z A B o (doS p ⟨15, a⟩ as h1) (run AP MT 206 [aProg p, eH o] ⟨n, g⟩) := by
  have V3 := P.V3
  rw [← P.nw] at V3
  have htv := ok1_list V3.t
  have q := P.q
  have t := P.t
  dsimp only at q t
  have hsl := d.f.sl
  have hi0 := idx_arg as 0 (by have := d.al; simp [takesS] at this; omega)
  obtain ⟨hv0, ha0⟩ := d.arg (i := 0) (by simp [takesS])
  simp at hi0
  have hi1 := idx_arg as 1 (by have := d.al; simp [takesS] at this; omega)
  obtain ⟨hv1, ha1⟩ := d.arg (i := 1) (by simp [takesS])
  simp at hi1
  have hr := d.call0 (by simp)
  obtain ⟨d2, hd2⟩ : ∃ d2, h1.calls[(arg as 0).num.toNat]? = some d2 := ⟨_, List.getElem?_eq_getElem (by omega)⟩
  obtain ⟨tv2, kv2, V2⟩ := V3.other hd2
  have hlk := i_246 V2 hr.2.1 rfl
  have htv2 := ok1_list V2.t
  have hda : deadAt h1 (arg as 0).num = d2.dead := by unfold deadAt; rw [hd2]
  rw [doS_15 rfl, run_evS AP_206 _ _ rfl]
  unfold backS
  rw [hda]
  cases hd : d2.dead
  · rw [hd] at hlk
    have hto : (arg as 0).num ∈ l := by
      have := d.w.al _ d2 hd2 hd
      rwa [show (((arg as 0).num.toNat : Nat) : Int) = (arg as 0).num by omega] at this
    have hll := up_len d.w.up
    obtain ⟨l2, a1, a2, a3, a4, a5, a6, _⟩ := unw_wf h1.calls.length d.w hto (by omega)
    obtain ⟨n4, g4, ow4, cv4, sv4, e4, W4⟩ := i_250 V3.W d.w hto
    obtain ⟨ci1, es1, tv1, kv1, rfl, V4⟩ := W4.view (j := (unwS h1.calls.length h1 (arg as 0).num).now.toNat) (c := d2) (by rw [a2, a4, hd2])
    have hcl := d.w.cl d2 (List.mem_of_getElem? hd2)
    obtain ⟨n5, g5, ow5, cv5, sv5, e5, W5⟩ := i_226 V4 (by rw [a2]; exact hr.2.1) hcl.2 (arg as 1)
    refine toC (by rw [if_neg (by simp), push_code, a5]; exact hc) ?_
    simp [c_206, P.hr, P.V.Hc, P.V.He, q, t, P.f, P.ok.k, P.ok.g, P.ok.p, htv.k, htv.g, htv.p, P.c2, P.e2, P.wr, P.r, P.u, hi0, ha0, hi1, ha1, hlk, htv2.k, htv2.g, htv2.p, e4, e5]
    exact ⟨_, _, _, _, _, rfl, W5⟩
  · rw [hd] at hlk
    refine ⟨h1, 2, by simp, ?_⟩
    simp [c_206, P.hr, P.V.Hc, P.V.He, q, t, P.f, P.ok.k, P.ok.g, P.ok.p, htv.k, htv.g, htv.p, P.c2, P.e2, P.wr, P.r, P.u, hi0, ha0, hlk, htv2.k, htv2.g, htv2.p]
    exact ⟨_, _, _, _, _, rfl, V3.W⟩
theorem i_206_16 {a : Int} (P : Pr k Z A B o p h n g ⟨16, a⟩ as h1 c c1 ci sv tv kv ow es N v n1 g1 g2 es2 es3 g3 ow3 kv3 sk pc1) (d : Din p ⟨16, a⟩ as h1 l c1 m) (hs : h1.said.length ≤ 4294967296) (hc : h1.code = 0) : ToC k Z A B o (doS p ⟨16, a⟩ as h1) (run AP MT 206 [aProg p, eH o] ⟨n, g⟩) := by
  have V3 := P.V3
  rw [← P.nw] at V3
  have htv := ok1_list V3.t
  have q := P.q
  have t := P.t
  dsimp only at q t
  have hsl := d.f.sl
  have hi0 := idx_arg as 0 (by have := d.al; simp [takesS] at this; omega)
  obtain ⟨hv0, ha0⟩ := d.arg (i := 0) (by simp [takesS])
  simp at hi0
  have hv0' := valOk_iff.1 hv0
  obtain ⟨n5, g5, ow5, cv5, sv5, e5, W5⟩ := i_229 V3.W hs (arg as 0) (fun e => by omega)
  rw [doS_16 rfl, run_evS AP_206 _ _ rfl]
  refine toC hc ?_
  simp [c_206, P.hr, P.V.Hc, P.V.He, q, t, P.f, P.ok.k, P.ok.g, P.ok.p, htv.k, htv.g, htv.p, P.c2, P.e2, P.wr, P.r, P.u, hi0, ha0, e5]
  exact ⟨_, _, _, _, _, rfl, W5⟩
end
end Go.Ai
set_option linter.unusedSimpArgs false
set_option linter.unusedVariables false
namespace Go.Ai
attribute [local simp] cnd_ite gS_ite callBy_whole
attribute [local simp] inv_0 inv_1 inv_2 inv_3 inv_4 inv_5 inv_6 inv_7 inv_8
section
variable {k n : Nat} {Z : Heap'} {A B : List Nat} {o : Nat} {p : GProg} {h : GHeap} {g : Heap'} {ow : Ow} {cv sv : AVal}
variable {ci : Nat} {es : Obj'} {j : Nat} {c : GCall} {tv kv : AVal}
theorem op_kr {p : GProg} {m : GMethod} {op : GOp} (h1 : opOk p m op = true) : 1 ≤ op.kind ∧ op.kind ≤ 18 := by
  unfold opOk at h1
  by_cases a1 : op.kind = 1
  · omega
  rw [if_neg a1] at h1
  by_cases a2 : op.kind = 2 ∨ op.kind = 3
  · omega
  rw [if_neg a2] at h1
  by_cases a3 : op.kind = 7 ∨ op.kind = 8
  · omega
  rw [if_neg a3] at h1
  by_cases a4 : op.kind = 9
  · omega
  rw [if_neg a4] at h1
  by_cases a5 : op.kind = 13 ∨ op.kind = 14
  · omega
  rw [if_neg a5] at h1
  simp only [Bool.and_eq_true, inR_iff] at h1
  omega
theorem i_206 (W : HW k Z A B [] o h n g ow cv sv) {l : List Int} (w : WF p h l) (hc0 : h.code = 0) (hs : h.said.length ≤ 4294967296) : ToC k Z A B o (stepS p h) (run AP MT 206 [aProg p, eH o] ⟨n, g⟩) := by
  have h0 := w.run0 hc0
  have hst := step_in w h0
  obtain ⟨c, m, l', rfl, hc, hd, ht, f, hn⟩ := w.head h0
  obtain ⟨ci, es, tv, kv, rfl, V⟩ := W.view hc
  have hr := i_247 V h0 rfl
  have htv := ok1_list V.t
  have hpl : p.length ≤ 4 := by
    have := w.prog
    simp only [progOk, Bool.and_eq_true, inR_iff] at this
    omega
  have hmo := method_iff.1 (prog_method w.prog f.Hm)
  have uc : ∀ {c' : GCall}, h.calls[h.now.toNat]? = some c' → c = c' := fun hc' => by rw [hc] at hc'; injection hc'
  have um : ∀ {m' : GMethod}, p[c.method.toNat]? = some m' → m = m' := fun hm' => by rw [f.Hm] at hm'; injection hm'
  have q36 := m_36h (mt := MT) p c.method c.pc m f.mr f.Hm f.pc.1 (by omega)
  cases hst with
  | none c' m' hc' f' ho he =>
    have := uc hc'; subst this
    have := um f'.Hm; subst this
    rw [ho] at q36
    dsimp only at q36
    obtain ⟨N, hN, q⟩ : ∃ N, n ≤ N ∧ callBy (run AP MT) (.alone false true) 36 [aProg p, vi c.method, vi c.pc] ⟨n, g⟩ = some (.tuple [aOp ⟨0, 0⟩, .bool false], ⟨N, g⟩) := ⟨_, nxt_le, q36 ⟨n, g⟩⟩
    have V0 := V.keep (n' := N) (g' := g) hN (fun _ _ => rfl)
    rw [he, run_evS AP_206 _ _ rfl]
    refine ⟨h, 2, rfl, ?_⟩
    simp [c_206, hr, V.Hc, V.He, q, htv.k, htv.g, htv.p]
    exact ⟨_, _, _, _, _, rfl, V0.W⟩
  | few c' m' op hc' f' ho hop hl he =>
    have := uc hc'; subst this
    have := um f'.Hm; subst this
    rw [ho] at q36
    dsimp only at q36
    obtain ⟨N, hN, q⟩ : ∃ N, n ≤ N ∧ callBy (run AP MT) (.alone false true) 36 [aProg p, vi c.method, vi c.pc] ⟨n, g⟩ = some (.tuple [aOp op, .bool true], ⟨N, g⟩) := ⟨_, nxt_le, q36 ⟨n, g⟩⟩
    have V0 := V.keep (n' := N) (g' := g) hN (fun _ _ => rfl)
    obtain ⟨N2, hN2, t⟩ := i_225few V0 op (op_kr hop) w.prog f.sl hl
    have V1 := V0.keep (n' := N2) (g' := g) hN2 (fun _ _ => rfl)
    rw [he, run_evS AP_206 _ _ rfl]
    refine ⟨h, 2, rfl, ?_⟩
    simp [c_206, hr, V.Hc, V.He, q, htv.k, htv.g, htv.p, t, fzV]
    exact ⟨_, _, _, _, _, rfl, V1.W⟩
  | kind c' m' op hc' f' ho hop kk hk hl ht' hkk he =>
    have := uc hc'; subst this
    have := um f'.Hm; subst this
    rw [ho] at q36
    dsimp only at q36
    obtain ⟨N, hN, q⟩ : ∃ N, n ≤ N ∧ callBy (run AP MT) (.alone false true) 36 [aProg p, vi c.method, vi c.pc] ⟨n, g⟩ = some (.tuple [aOp op, .bool true], ⟨N, g⟩) := ⟨_, nxt_le, q36 ⟨n, g⟩⟩
    have V0 := V.keep (n' := N) (g' := g) hN (fun _ _ => rfl)
    have t := i_225 V0 op (op_kr hop) w.prog f.sl kk hk hl
    rw [hkk] at t
    unfold Took at t
    simp only [Bool.false_eq_true, if_false] at t
    obtain ⟨N2, g2, t, hN2, x1, x2⟩ := t
    have V1 := V0.keep (n' := N2) (g' := g2) hN2 x1 (fun _ => x2)
    rw [he, run_evS AP_206 _ _ rfl]
    refine ⟨h, 2, rfl, ?_⟩
    simp [c_206, hr, V.Hc, V.He, q, htv.k, htv.g, htv.p, t, fzV]
    exact ⟨_, _, _, _, _, rfl, V1.W⟩
  | done c' m' op hc' f' ho hop kk hk hl ht' hkk d he =>
    have := uc hc'; subst this
    have := um f'.Hm; subst this
    rw [ho] at q36
    dsimp only at q36
    obtain ⟨N, hN, q⟩ : ∃ N, n ≤ N ∧ callBy (run AP MT) (.alone false true) 36 [aProg p, vi c.method, vi c.pc] ⟨n, g⟩ = some (.tuple [aOp op, .bool true], ⟨N, g⟩) := ⟨_, nxt_le, q36 ⟨n, g⟩⟩
    have V0 := V.keep (n' := N) (g' := g) hN (fun _ _ => rfl)
    have t := i_225 V0 op (op_kr hop) w.prog f.sl kk hk hl
    rw [hkk] at t
    unfold Took at t
    simp only [if_true] at t
    obtain ⟨v, n1, g1, ow1, es1, kv1, t, hn1, V1, hv⟩ := t
    obtain ⟨g2, x1, V2⟩ := hv.fz V1
    have hwp : IntKind.i64.wrap (c.pc + 1) = c.pc + 1 := wrap_id (by have := f.pc; omega) (by have := f.pc; omega)
    obtain ⟨g3, es3, z6, z7, V5⟩ := V2.row { c with stack := c.stack.take kk, pc := c.pc + 1 } kv1 (off := 1) (x := vi (c.pc + 1)) rfl (by omega) rfl V2.s
    have hset : setC (setC h h.now.toNat { c with stack := c.stack.take kk }) h.now.toNat { c with stack := c.stack.take kk, pc := c.pc + 1 } = setC h h.now.toNat { c with stack := c.stack.take kk, pc := c.pc + 1 } := by simp [setC]
    rw [hset] at V5
    rw [he]
    have P : Pr k Z A B o p h n g op (c.stack.drop kk) (setC h h.now.toNat { c with stack := c.stack.take kk, pc := c.pc + 1 }) c { c with stack := c.stack.take kk, pc := c.pc + 1 } ci sv tv kv ow es N v n1 g1 g2 es1 es3 g3 ow1 kv1 [] 0 :=
      ⟨V, hr, q, t, x1, hv.ok, V2.Hc, V2.He, hwp, z6, z7, V5, rfl⟩
    have hs' : (setC h h.now.toNat { c with stack := c.stack.take kk, pc := c.pc + 1 }).said.length ≤ 4294967296 := hs
    have hc' : (setC h h.now.toNat { c with stack := c.stack.take kk, pc := c.pc + 1 }).code = 0 := hc0
    generalize setC h h.now.toNat { c with stack := c.stack.take kk, pc := c.pc + 1 } = h1 at *
    have hkr := d.kr
    obtain ⟨κ, a⟩ := op
    dsimp only at hkr
    rcases hkr with rfl | rfl | rfl | rfl | rfl | rfl | rfl | rfl | rfl | rfl | rfl | rfl | rfl | rfl | rfl | rfl | rfl | rfl
    · exact i_206_1 P d hs' hc'
    · exact i_206_2 P d hs' hc'
    · exact i_206_3 P d hs' hc'
    · exact i_206_4 P d hs' hc'
    · exact i_206_5 P d hs' hc'
    · exact i_206_6 P d hs' hc'
    · exact i_206_7 P d hs' hc'
    · exact i_206_8 P d hs' hc'
    · exact i_206_9 P d hs' hc'
    · exact i_206_10 P d hs' hc'
    · exact i_206_11 P d hs' hc'
    · exact i_206_12 P d hs' hc'
    · exact i_206_13 P d hs' hc'
    · exact i_206_14 P d hs' hc'
    · exact i_206_15 P d hs' hc'
    · exact i_206_16 P d hs' hc'
    · exact i_206_17 P d hs' hc'
    · exact i_206_18 P d hs' hc'
end
end Go.Ai
