/- The laws' measures: each is some number. Written by a program of this claim (gen_law.py). The laws' conversions give what they are given, owned. Written by a program of this claim (gen_law.py). The laws' comparisons of a thing with itself. Written by a program of this claim (gen_law.py). -/
import Derived.Test.YtbbnjbichjhmoaaGreatB2
import Derived.Test.YtbbnjbichjhmoaaGreatB3
set_option linter.unusedSimpArgs false
set_option linter.unusedVariables false
namespace Go.Ai
variable {mt : Nat → Nat → Option Nat}
attribute [local simp] cnd_ite gS_ite
theorem drop_cons {α : Type} {l : List α} {i : Nat} {x : α} (h : l[i]? = some x) : l.drop i = x :: l.drop (i + 1) := by
  obtain ⟨hi, rfl⟩ := List.getElem?_eq_some_iff.1 h
  exact List.drop_eq_getElem_cons hi
/-- A call that sees nothing of the heap answers v. -/
def Q (mt : Nat → Nat → Option Nat) (f : Nat) (as : List AVal) (v : AVal) : Prop := ∀ G : AG, callBy (run AP mt) (.alone false true) f as G = some (v, ⟨nxt AP mt f as G.next, G.obj⟩)
theorem Q.of {f : Nat} {as : List AVal} {v : AVal} (ha : frzs noObj as = some as) (h : ∀ k, Gv k v (run AP mt f as ⟨k, noObj⟩)) : Q mt f as v := fun G => q_of ha h G
/-- Lists as long as the machine's may be. -/
structure SmP (p : GProg) : Prop where
  l : p.length ≤ 9223372036854775807
  m : ∀ m ∈ p, m.ops.length ≤ 9223372036854775807
structure SmH (h : GHeap) : Prop where
  l : h.calls.length ≤ 9223372036854775807
  c : ∀ c ∈ h.calls, c.temps.length ≤ 9223372036854775807 ∧ c.stack.length ≤ 9223372036854775807
  s : h.said.length ≤ 9223372036854775807
/-- Short lists. -/
structure ShP (p : GProg) : Prop where
  l : p.length ≤ 2097152
  m : ∀ m ∈ p, m.ops.length ≤ 2097152
structure ShH (h : GHeap) : Prop where
  l : h.calls.length ≤ 2097152
  c : ∀ c ∈ h.calls, c.temps.length ≤ 2097152 ∧ c.stack.length ≤ 2097152
  s : h.said.length ≤ 2097152
/-- What the measures let in. -/
structure TnP (p : GProg) : Prop where
  l : p.length ≤ 1048576
  m : ∀ m ∈ p, m.ops.length ≤ 1048576
structure TnH (h : GHeap) : Prop where
  l : h.calls.length ≤ 1048576
  c : ∀ c ∈ h.calls, c.temps.length ≤ 1048576 ∧ c.stack.length ≤ 1048576
  s : h.said.length ≤ 1048576
theorem TnP.sh {p : GProg} (h : TnP p) : ShP p := ⟨by have := h.l; omega, fun m hm => by have := h.m m hm; omega⟩
theorem TnH.sh {p : GHeap} (h : TnH p) : ShH p := ⟨by have := h.l; omega, fun m hm => by have := h.c m hm; omega, by have := h.s; omega⟩
theorem z_86 (l : List GOp) (h : l.length ≤ 9223372036854775807) : Sz AP mt 86 (lOp l) (l.length ≤ 1048576) := sz_leaf (e := eOp) AP_86 l h
theorem z_60 (m : GMethod) (h : m.ops.length ≤ 9223372036854775807) : Sz AP mt 60 (aMethod m) (m.ops.length ≤ 1048576) := by
  intro x0 h0
  have hn0 := h0.1
  obtain ⟨x1, hx1, hs1, q1⟩ := z_86 (mt := mt) m.ops (h) x0 h0
  unfold QQ at q1
  refine ⟨if x1 < 0 then -1 else x1, by unfold Bd at *; split <;> omega, fun h => hs1 (by split at h <;> omega), QQ.of rfl (fun k => ?_)⟩
  rw [run_evS AP_60 _ _ rfl]
  simp [c_60, q1]
  refine Gv.ite (fun h => ?_) (fun h => ?_)
  · exact Gv.some (by repeat (first | exact Nat.le_refl _ | apply le_nxt)) (by simp [frz, h])
  · exact Gv.some (by repeat (first | exact Nat.le_refl _ | apply le_nxt)) (by simp [frz, h])
theorem z_30 (l : List GVal) (h : l.length ≤ 9223372036854775807) : Sz AP mt 30 (lVal l) (l.length ≤ 1048576) := sz_leaf (e := eVal) AP_30 l h
theorem z_61 (m : GCall) (h : m.temps.length ≤ 9223372036854775807 ∧ m.stack.length ≤ 9223372036854775807) : Sz AP mt 61 (aCall m) (m.temps.length ≤ 1048576 ∧ m.stack.length ≤ 1048576) := by
  intro x0 h0
  have hn0 := h0.1
  obtain ⟨x1, hx1, hs1, q1⟩ := z_30 (mt := mt) m.temps (h.1) x0 h0
  unfold QQ at q1
  rcases Int.lt_or_le x1 0 with hn1 | hn1
  · refine ⟨-1, by unfold Bd; omega, fun h => by omega, QQ.of rfl (fun k => ?_)⟩
    rw [run_evS AP_61 _ _ rfl]
    simp [c_61, q1, hn1]
    exact Gv.some (by repeat (first | exact Nat.le_refl _ | apply le_nxt)) (by simp [frz])
  have hm1 : ¬ x1 < 0 := by omega
  obtain ⟨x2, hx2, hs2, q2⟩ := z_30 (mt := mt) m.stack (h.2) x1 ⟨hn1, hx1.2⟩
  unfold QQ at q2
  refine ⟨if x2 < 0 then -1 else x2, by unfold Bd at *; split <;> omega, fun h => ⟨hs1 hn1, hs2 (by split at h <;> omega)⟩, QQ.of rfl (fun k => ?_)⟩
  rw [run_evS AP_61 _ _ rfl]
  simp [c_61, q1, q2, hm1]
  refine Gv.ite (fun h => ?_) (fun h => ?_)
  · exact Gv.some (by repeat (first | exact Nat.le_refl _ | apply le_nxt)) (by simp [frz, h])
  · exact Gv.some (by repeat (first | exact Nat.le_refl _ | apply le_nxt)) (by simp [frz, h])
theorem z_29 (l : List GCall) (h : l.length ≤ 9223372036854775807 ∧ ∀ m ∈ l, m.temps.length ≤ 9223372036854775807 ∧ m.stack.length ≤ 9223372036854775807) : Sz AP mt 29 (lCall l) (l.length ≤ 1048576 ∧ ∀ m ∈ l, m.temps.length ≤ 1048576 ∧ m.stack.length ≤ 1048576) := sz_nest (e := eCall) (z := 6) (f := 61) AP_29 rfl l (fun m => m.temps.length ≤ 1048576 ∧ m.stack.length ≤ 1048576) (fun _ => rfl) h.1 (fun m hm => z_61 m (h.2 m hm))
theorem z_5 (m : GHeap) (h : SmH m) : Sz AP mt 5 (aHeap m) (TnH m) := by
  intro x0 h0
  have hn0 := h0.1
  obtain ⟨x1, hx1, hs1, q1⟩ := z_29 (mt := mt) m.calls (⟨h.l, h.c⟩) x0 h0
  unfold QQ at q1
  rcases Int.lt_or_le x1 0 with hn1 | hn1
  · refine ⟨-1, by unfold Bd; omega, fun h => by omega, QQ.of rfl (fun k => ?_)⟩
    rw [run_evS AP_5 _ _ rfl]
    simp [c_5, q1, hn1]
    exact Gv.some (by repeat (first | exact Nat.le_refl _ | apply le_nxt)) (by simp [frz])
  have hm1 : ¬ x1 < 0 := by omega
  obtain ⟨x2, hx2, hs2, q2⟩ := z_30 (mt := mt) m.said (h.s) x1 ⟨hn1, hx1.2⟩
  unfold QQ at q2
  refine ⟨if x2 < 0 then -1 else x2, by unfold Bd at *; split <;> omega, fun h => ⟨(hs1 hn1).1, (hs1 hn1).2, hs2 (by split at h <;> omega)⟩, QQ.of rfl (fun k => ?_)⟩
  rw [run_evS AP_5 _ _ rfl]
  simp [c_5, q1, q2, hm1]
  refine Gv.ite (fun h => ?_) (fun h => ?_)
  · exact Gv.some (by repeat (first | exact Nat.le_refl _ | apply le_nxt)) (by simp [frz, h])
  · exact Gv.some (by repeat (first | exact Nat.le_refl _ | apply le_nxt)) (by simp [frz, h])
theorem z_28 (l : List GMethod) (h : l.length ≤ 9223372036854775807 ∧ ∀ m ∈ l, m.ops.length ≤ 9223372036854775807) : Sz AP mt 28 (lMethod l) (l.length ≤ 1048576 ∧ ∀ m ∈ l, m.ops.length ≤ 1048576) := sz_nest (e := eMethod) (z := 3) (f := 60) AP_28 rfl l (fun m => m.ops.length ≤ 1048576) (fun _ => rfl) h.1 (fun m hm => z_60 m (h.2 m hm))
theorem z_4 (m : GProg) (h : SmP m) : Sz AP mt 4 (aProg m) (TnP m) := by
  intro x0 h0
  have hn0 := h0.1
  obtain ⟨x1, hx1, hs1, q1⟩ := z_28 (mt := mt) m (⟨h.l, h.m⟩) x0 h0
  unfold QQ at q1
  refine ⟨if x1 < 0 then -1 else x1, by unfold Bd at *; split <;> omega, fun h => ⟨(hs1 (by split at h <;> omega)).1, (hs1 (by split at h <;> omega)).2⟩, QQ.of rfl (fun k => ?_)⟩
  rw [run_evS AP_4 _ _ rfl]
  simp [c_4, q1]
  refine Gv.ite (fun h => ?_) (fun h => ?_)
  · exact Gv.some (by repeat (first | exact Nat.le_refl _ | apply le_nxt)) (by simp [frz, h])
  · exact Gv.some (by repeat (first | exact Nat.le_refl _ | apply le_nxt)) (by simp [frz, h])
end Go.Ai
set_option linter.unusedSimpArgs false
set_option linter.unusedVariables false
namespace Go.Ai
variable {mt : Nat → Nat → Option Nat}
attribute [local simp] cnd_ite gS_ite
theorem omap_id {α : Type} {f : α → Option α} : ∀ {l : List α}, (∀ x ∈ l, f x = some x) → omap f l = some l := by
  intro l
  induction l with
  | nil => intro _; rfl
  | cons x xs ih =>
    intro h
    simp only [omap, h x (List.mem_cons_self ..), ih (fun y hy => h y (List.mem_cons_of_mem _ hy)), Option.bind_some]
theorem frz_sl {d id n : Nat} {g : Heap'} {es es' : Obj'} (h : g id = some es) (hn : es.length = n) (hf : omap (omap (frz d g)) es = some es') : frz (d + 1) g (.slice id 0 n) = some (.list es') := by
  show ((g id).bind fun es0 => if 0 + n ≤ es0.length then (omap (omap (frz d g)) ((es0.drop 0).take n)).map AVal.list else none) = _
  rw [h]
  subst hn
  simp [hf]
/-- What is answered owned, called frozen. -/
theorem own_q {f : Nat} {as cells : List AVal} (ha : frzs noObj as = some as) (h : OwnRunA AP mt f as cells) (hd : ∀ a ∈ cells, dep 7 a = true) : Q mt f as (.agg cells) := by
  refine Q.of ha (fun k => ?_)
  obtain ⟨row, m, g, ow, h1, h4, h5, h6, h7⟩ := h k [] 0 0
  refine ⟨_, m, g, h1, h4, ?_⟩
  show (omap (frz 7 g) row).map AVal.agg = _
  rw [h5.frz hd]
  rfl
theorem t_107 (m : GOp) : OwnRunA AP mt 107 [aOp m] (eOp m) := by
  intro k p i c
  have A0 := Acc.start k (p ++ [i])
  rw [run_evS AP_107 _ _ rfl]
  simp [c_107]
  refine ⟨_, k, noObj, (fun _ => none), rfl, A0.le, ?_, A0.f, A0.n⟩
  exact ⟨.int _ _ _, .int _ _ _, trivial⟩
theorem t_64 (m : GVal) : OwnRunA AP mt 64 [aVal m] (eVal m) := by
  intro k p i c
  have A0 := Acc.start k (p ++ [i])
  rw [run_evS AP_64 _ _ rfl]
  simp [c_64]
  refine ⟨_, k, noObj, (fun _ => none), rfl, A0.le, ?_, A0.f, A0.n⟩
  exact ⟨.int _ _ _, .int _ _ _, trivial⟩
theorem t_87 (l : List GOp) (h : l.length ≤ 2097152) : OwnRun AP mt 87 [lOp l] [lOp l] := to_nest (e := eOp) (z := 2) (f := 107) (zs := [.int .i64 0, .int .i64 0]) (b := 16) AP_87 rfl rfl l (fun _ => rfl) rfl h (by omega) (fun m hm => (t_107 m).own) (fun _ _ => rfl)
theorem t_62 (m : GMethod) (h : m.ops.length ≤ 2097152) : OwnRunA AP mt 62 [aMethod m] (eMethod m) := by
  intro k p i c
  have A0 := Acc.start k (p ++ [i])
  obtain ⟨r1, w1, m1, g1, o1, a1, b1, d1, e1, f1, i1, j1⟩ := own_call (mt := mt) (by rfl) (t_87 m.ops (h)) ⟨k, noObj⟩ p i (c + 2)
  obtain ⟨A1, l1, k1⟩ := A0.next e1 i1 j1
  obtain ⟨u1, rfl, v1⟩ := f1.one
  rw [run_evS AP_62 _ _ rfl]
  simp [c_62, a1, b1, d1, gv_pv d1]
  refine ⟨_, m1, (ovr noObj g1), (joinW k (fun _ => none) o1), rfl, A1.le, ?_, A1.f, A1.n⟩
  exact ⟨.int _ _ _, .int _ _ _, k1 _ _ _ v1, trivial⟩
theorem t_34 (l : List GVal) (h : l.length ≤ 2097152) : OwnRun AP mt 34 [lVal l] [lVal l] := to_nest (e := eVal) (z := 2) (f := 64) (zs := [.int .i64 0, .int .i64 0]) (b := 16) AP_34 rfl rfl l (fun _ => rfl) rfl h (by omega) (fun m hm => (t_64 m).own) (fun _ _ => rfl)
theorem t_63 (m : GCall) (h : m.temps.length ≤ 2097152 ∧ m.stack.length ≤ 2097152) : OwnRunA AP mt 63 [aCall m] (eCall m) := by
  intro k p i c
  have A0 := Acc.start k (p ++ [i])
  obtain ⟨r1, w1, m1, g1, o1, a1, b1, d1, e1, f1, i1, j1⟩ := own_call (mt := mt) (by rfl) (t_34 m.temps (h.1)) ⟨k, noObj⟩ p i (c + 2)
  obtain ⟨A1, l1, k1⟩ := A0.next e1 i1 j1
  obtain ⟨u1, rfl, v1⟩ := f1.one
  obtain ⟨r2, w2, m2, g2, o2, a2, b2, d2, e2, f2, i2, j2⟩ := own_call (mt := mt) (by rfl) (t_34 m.stack (h.2)) ⟨m1, (ovr noObj g1)⟩ p i (c + 3)
  obtain ⟨A2, l2, k2⟩ := A1.next e2 i2 j2
  obtain ⟨u2, rfl, v2⟩ := f2.one
  rw [run_evS AP_63 _ _ rfl]
  simp [c_63, a1, b1, d1, gv_pv d1, a2, b2, d2, gv_pv d2]
  refine ⟨_, m2, (ovr (ovr noObj g1) g2), (joinW m1 (joinW k (fun _ => none) o1) o2), rfl, A2.le, ?_, A2.f, A2.n⟩
  exact ⟨.int _ _ _, .int _ _ _, l2 _ _ _ (k1 _ _ _ v1), k2 _ _ _ v2, .int _ _ _, .bool _ _, trivial⟩
theorem t_33 (l : List GCall) (h : l.length ≤ 2097152 ∧ ∀ m ∈ l, m.temps.length ≤ 2097152 ∧ m.stack.length ≤ 2097152) : OwnRun AP mt 33 [lCall l] [lCall l] := to_nest (e := eCall) (z := 6) (f := 63) (zs := [.int .i64 0, .int .i64 0, .nils, .nils, .int .i64 0, .bool false]) (b := 80) AP_33 rfl rfl l (fun _ => rfl) rfl h.1 (by omega) (fun m hm => (t_63 m (h.2 m hm)).own) (fun _ _ => rfl)
theorem t_8 (m : GHeap) (h : ShH m) : OwnRunA AP mt 8 [aHeap m] (eHeap m) := by
  intro k p i c
  have A0 := Acc.start k (p ++ [i])
  obtain ⟨r1, w1, m1, g1, o1, a1, b1, d1, e1, f1, i1, j1⟩ := own_call (mt := mt) (by rfl) (t_33 m.calls (⟨h.l, h.c⟩)) ⟨k, noObj⟩ p i (c + 0)
  obtain ⟨A1, l1, k1⟩ := A0.next e1 i1 j1
  obtain ⟨u1, rfl, v1⟩ := f1.one
  obtain ⟨r2, w2, m2, g2, o2, a2, b2, d2, e2, f2, i2, j2⟩ := own_call (mt := mt) (by rfl) (t_34 m.said (h.s)) ⟨m1, (ovr noObj g1)⟩ p i (c + 3)
  obtain ⟨A2, l2, k2⟩ := A1.next e2 i2 j2
  obtain ⟨u2, rfl, v2⟩ := f2.one
  rw [run_evS AP_8 _ _ rfl]
  simp [c_8, a1, b1, d1, gv_pv d1, a2, b2, d2, gv_pv d2]
  refine ⟨_, m2, (ovr (ovr noObj g1) g2), (joinW m1 (joinW k (fun _ => none) o1) o2), rfl, A2.le, ?_, A2.f, A2.n⟩
  exact ⟨l2 _ _ _ (k1 _ _ _ v1), .int _ _ _, .int _ _ _, k2 _ _ _ v2, .int _ _ _, trivial⟩
theorem t_32 (l : List GMethod) (h : l.length ≤ 2097152 ∧ ∀ m ∈ l, m.ops.length ≤ 2097152) : OwnRun AP mt 32 [lMethod l] [lMethod l] := to_nest (e := eMethod) (z := 3) (f := 62) (zs := [.int .i64 0, .int .i64 0, .nils]) (b := 40) AP_32 rfl rfl l (fun _ => rfl) rfl h.1 (by omega) (fun m hm => (t_62 m (h.2 m hm)).own) (fun _ _ => rfl)
theorem t_7 (m : GProg) (h : ShP m) : OwnRunA AP mt 7 [aProg m] [lMethod m] := by
  intro k p i c
  have A0 := Acc.start k (p ++ [i])
  obtain ⟨r1, w1, m1, g1, o1, a1, b1, d1, e1, f1, i1, j1⟩ := own_call (mt := mt) (by rfl) (t_32 m (⟨h.l, h.m⟩)) ⟨k, noObj⟩ p i (c + 0)
  obtain ⟨A1, l1, k1⟩ := A0.next e1 i1 j1
  obtain ⟨u1, rfl, v1⟩ := f1.one
  rw [run_evS AP_7 _ _ rfl]
  simp [c_7, a1, b1, d1, gv_pv d1]
  refine ⟨_, m1, (ovr noObj g1), (joinW k (fun _ => none) o1), rfl, A1.le, ?_, A1.f, A1.n⟩
  exact ⟨k1 _ _ _ v1, trivial⟩
theorem tq_8 (m : GHeap) (h : ShH m) : Q mt 8 [aHeap m] (aHeap m) := own_q rfl (t_8 m h) (by simp [dep])
theorem tq_7 (m : GProg) (h : ShP m) : Q mt 7 [aProg m] (aProg m) := own_q rfl (t_7 m h) (by simp [dep])
end Go.Ai
set_option linter.unusedSimpArgs false
set_option linter.unusedVariables false
namespace Go.Ai
variable {mt : Nat → Nat → Option Nat}
attribute [local simp] cnd_ite gS_ite
theorem y_10 (m : GOp) (k : Nat) : Gv k (.bool true) (run AP mt 10 [aOp m, aOp m] ⟨k, noObj⟩) := by
  rw [run_evS AP_10 _ _ rfl]
  simp [c_10]
  exact Gv.bool (by repeat (first | exact Nat.le_refl _ | apply le_nxt)) rfl
theorem y_71 (m : GVal) (k : Nat) : Gv k (.bool true) (run AP mt 71 [aVal m, aVal m] ⟨k, noObj⟩) := by
  rw [run_evS AP_71 _ _ rfl]
  simp [c_71]
  exact Gv.bool (by repeat (first | exact Nat.le_refl _ | apply le_nxt)) rfl
theorem y_97 (l : List GOp) (h : l.length ≤ 2097152) (k : Nat) : Gv k (.bool true) (run AP mt 97 [lOp l, lOp l] ⟨k, noObj⟩) := eqS_refl (e := eOp) (z := 2) (f := 10) AP_97 rfl l (fun _ => rfl) h (fun m hm => QQ.of rfl (y_10 m)) k
theorem y_69 (m : GMethod) (h : m.ops.length ≤ 2097152) (k : Nat) : Gv k (.bool true) (run AP mt 69 [aMethod m, aMethod m] ⟨k, noObj⟩) := by
  have q1 : QQ AP mt 97 [lOp m.ops, lOp m.ops] (.bool true) := QQ.of rfl (y_97 (mt := mt) m.ops (h))
  unfold QQ at q1
  rw [run_evS AP_69 _ _ rfl]
  simp [c_69, q1]
  exact Gv.bool (by repeat (first | exact Nat.le_refl _ | apply le_nxt)) rfl
theorem y_39 (l : List GVal) (h : l.length ≤ 2097152) (k : Nat) : Gv k (.bool true) (run AP mt 39 [lVal l, lVal l] ⟨k, noObj⟩) := eqS_refl (e := eVal) (z := 2) (f := 71) AP_39 rfl l (fun _ => rfl) h (fun m hm => QQ.of rfl (y_71 m)) k
theorem y_70 (m : GCall) (h : m.temps.length ≤ 2097152 ∧ m.stack.length ≤ 2097152) (k : Nat) : Gv k (.bool true) (run AP mt 70 [aCall m, aCall m] ⟨k, noObj⟩) := by
  have q1 : QQ AP mt 39 [lVal m.temps, lVal m.temps] (.bool true) := QQ.of rfl (y_39 (mt := mt) m.temps (h.1))
  unfold QQ at q1
  have q2 : QQ AP mt 39 [lVal m.stack, lVal m.stack] (.bool true) := QQ.of rfl (y_39 (mt := mt) m.stack (h.2))
  unfold QQ at q2
  rw [run_evS AP_70 _ _ rfl]
  simp [c_70, q1, q2]
  exact Gv.bool (by repeat (first | exact Nat.le_refl _ | apply le_nxt)) rfl
theorem y_38 (l : List GCall) (h : l.length ≤ 2097152 ∧ ∀ m ∈ l, m.temps.length ≤ 2097152 ∧ m.stack.length ≤ 2097152) (k : Nat) : Gv k (.bool true) (run AP mt 38 [lCall l, lCall l] ⟨k, noObj⟩) := eqS_refl (e := eCall) (z := 6) (f := 70) AP_38 rfl l (fun _ => rfl) h.1 (fun m hm => QQ.of rfl (y_70 m (h.2 m hm))) k
theorem y_12 (m : GHeap) (h : ShH m) (k : Nat) : Gv k (.bool true) (run AP mt 12 [aHeap m, aHeap m] ⟨k, noObj⟩) := by
  have q1 : QQ AP mt 38 [lCall m.calls, lCall m.calls] (.bool true) := QQ.of rfl (y_38 (mt := mt) m.calls (⟨h.l, h.c⟩))
  unfold QQ at q1
  have q2 : QQ AP mt 39 [lVal m.said, lVal m.said] (.bool true) := QQ.of rfl (y_39 (mt := mt) m.said (h.s))
  unfold QQ at q2
  rw [run_evS AP_12 _ _ rfl]
  simp [c_12, q1, q2]
  exact Gv.bool (by repeat (first | exact Nat.le_refl _ | apply le_nxt)) rfl
theorem y_37 (l : List GMethod) (h : l.length ≤ 2097152 ∧ ∀ m ∈ l, m.ops.length ≤ 2097152) (k : Nat) : Gv k (.bool true) (run AP mt 37 [lMethod l, lMethod l] ⟨k, noObj⟩) := eqS_refl (e := eMethod) (z := 3) (f := 69) AP_37 rfl l (fun _ => rfl) h.1 (fun m hm => QQ.of rfl (y_69 m (h.2 m hm))) k
theorem y_11 (m : GProg) (h : ShP m) (k : Nat) : Gv k (.bool true) (run AP mt 11 [aProg m, aProg m] ⟨k, noObj⟩) := by
  have q1 : QQ AP mt 37 [lMethod m, lMethod m] (.bool true) := QQ.of rfl (y_37 (mt := mt) m (⟨h.l, h.m⟩))
  unfold QQ at q1
  rw [run_evS AP_11 _ _ rfl]
  simp [c_11, q1]
  exact Gv.bool (by repeat (first | exact Nat.le_refl _ | apply le_nxt)) rfl
end Go.Ai
