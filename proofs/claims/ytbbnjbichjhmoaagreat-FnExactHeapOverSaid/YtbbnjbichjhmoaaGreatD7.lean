/- The law FnExactHeapOut, as a run of the lowered program. The law FnExactHeapOver, as a run of the lowered program. -/
import Derived.Test.YtbbnjbichjhmoaaGreatD6
set_option linter.unusedSimpArgs false
set_option linter.unusedVariables false
namespace Go.Ai
attribute [local simp] cnd_ite gS_ite callBy_whole
theorem dj23 : ∀ s : List Nat, [2, 0] <+: s → ¬ [2, 3] <+: s := by intro s h1 h2; simpa using pre_c (p := []) (i := 2) h1 h2
theorem fz3 {H : Heap'} {a b a' b' : AVal} {n : Int} (h1 : frz 8 H a = some a') (h2 : frz 8 H b = some b') : frzs H [a, b, vi n] = some [a', b', vi n] := by
  have e : frz 8 H (vi n) = some (vi n) := rfl
  simp [frzs, omap, h1, h2, e]
theorem outB_gv {k : Nat} {A B : List Nat} {h : GHeap} {b : Bool} {x : R} (hr : OutHB k A B h (fun v => .tuple [v, .bool b]) x) : Gv k (.tuple [aHeap h, .bool b]) x := by
  obtain ⟨cv, sv, m, g, ow, h1, h2, h3, h4, h5, h6, h7⟩ := hr
  refine ⟨_, m, g, h1, h2, ?_⟩
  have e1 := h3.frz 6 (by simp [dep])
  have e2 := h4.frz 6 (by simp [dep])
  have ei : ∀ n, frz 6 g (vi n) = some (vi n) := fun _ => rfl
  have eb : frz 7 g (.bool b) = some (.bool b) := rfl
  have ea : frz 7 g (.agg [cv, vi h.now, vi h.born, sv, vi h.code]) = some (aHeap h) := by
    show (omap (frz 6 g) _).map AVal.agg = _
    simp [omap, e1, e2, ei]
  show (omap (frz 7 g) _).map AVal.tuple = _
  simp [omap, ea, eb]
theorem q_173 (p : GProg) (h : GHeap) (most : Int) (hp : ShP p) (hh : ShH h) : Q MT 173 [aProg p, aHeap h, vi most] (.tuple [aHeap (outR p h most).1, .bool (outR p h most).2]) :=
  Q.of rfl (fun k => outB_gv (i_173 p h most hp hh (A := [2, 0]) (B := [2, 3]) dj23 k))
theorem law_169 (p : GProg) (h : GHeap) (most : Int) (hp : SmP p) (hh : SmH h) (k : Nat) : Gv k (.bool true) (run AP MT 169 [aProg p, aHeap h, vi most] ⟨k, noObj⟩) := by
  obtain ⟨x, hx, hxs, qx⟩ := z_4 (mt := MT) p hp 1048576 (by omega)
  unfold QQ at qx
  rw [run_evS AP_169 _ _ rfl]
  rcases Int.lt_or_le x 0 with hx0 | hx0
  · simp [c_169, qx, hx0]
    exact Gv.bool (by repeat (first | exact Nat.le_refl _ | apply le_nxt)) rfl
  have hx0' : ¬ x < 0 := by omega
  obtain ⟨y, hy, hys, qy⟩ := z_5 (mt := MT) h hh x ⟨hx0, hx.2⟩
  unfold QQ at qy
  rcases Int.lt_or_le y 0 with hy0 | hy0
  · simp [c_169, qx, hx0', qy, hy0]
    exact Gv.bool (by repeat (first | exact Nat.le_refl _ | apply le_nxt)) rfl
  have hy0' : ¬ y < 0 := by omega
  have hP := (hxs hx0).sh
  have hH := (hys hy0).sh
  have hR : ShH (outR p h most).1 := outR_sh p h most (hys hy0).s
  have q7 := tq_7 (mt := MT) p hP
  have q8 := tq_8 (mt := MT) h hH
  have q13 := s_172 (mt := MT) p h most hP hH 
  have q14 := q_173 p h most hP hH
  unfold Q at q7 q8 q13 q14
  generalize hN : nxt AP MT 172 [aProg p, aHeap h, vi most] (nxt AP MT 8 [aHeap h] (nxt AP MT 7 [aProg p] (nxt AP MT 5 [aHeap h, vi x] (nxt AP MT 4 [aProg p, vi 1048576] k)))) = N
  have hkN : k ≤ N := by rw [← hN]; repeat (first | exact Nat.le_refl _ | apply le_nxt)
  -- x0, x1, g0
  have A0 := Acc.start N []
  obtain ⟨row0, m1, g1, o1, a1, e1, f1, i1', j1⟩ := own_callA (mt := MT) (by rfl) (t_7 (mt := MT) p hP) ⟨N, noObj⟩ [] 0 0
  obtain ⟨u, rfl, f0⟩ := f1.one
  obtain ⟨A1, l1, k1⟩ := A0.next e1 (fun id q hq => let ⟨a, b, _⟩ := i1' id q hq; ⟨a, b, List.nil_prefix⟩) j1
  obtain ⟨row1, m2, g2, o2, a2, e2, f2, i2', j2⟩ := own_callA (mt := MT) (by rfl) (t_8 (mt := MT) h hH) ⟨m1, ovr noObj g1⟩ [] 1 0
  obtain ⟨A2, l2, k2⟩ := A1.next e2 (fun id q hq => let ⟨a, b, _⟩ := i2' id q hq; ⟨a, b, List.nil_prefix⟩) j2
  obtain ⟨x0, x1, x2, x3, x4, rfl, p0, p1, p2, p3, p4⟩ : ∃ x0 x1 x2 x3 x4, row1 = [x0, x1, x2, x3, x4] ∧ Own g2 o2 [1, 0] (lCall h.calls) x0 ∧ Own g2 o2 [1, 1] (vi h.now) x1 ∧ Own g2 o2 [1, 2] (vi h.born) x2 ∧ Own g2 o2 [1, 3] (lVal h.said) x3 ∧ Own g2 o2 [1, 4] (vi h.code) x4 := by
    match row1, f2 with
    | [x0, x1, x2, x3, x4], ⟨p0, p1, p2, p3, p4, _⟩ => exact ⟨x0, x1, x2, x3, x4, rfl, p0, p1, p2, p3, p4⟩
  have e := own_scal_inv (by rfl) p1
  subst e
  have e := own_scal_inv (by rfl) p2
  subst e
  have e := own_scal_inv (by rfl) p4
  subst e
  have hu2 := l2 _ _ _ (k1 _ _ _ f0)
  have hc2 := k2 _ _ _ p0
  have hs2 := k2 _ _ _ p3
  generalize hW2 : joinW m1 (joinW N (fun _ => none) o1) o2 = W2 at *
  generalize hH2 : ovr (ovr noObj g1) g2 = H2 at *
  obtain ⟨cv, sv, m3, g3, o3, a3, e3, f3, f3', i3', j3, v1, v2⟩ := b_snap (G := ⟨m2, H2⟩) (A := [2, 0]) (B := [2, 3]) (fz3 (fz_prog hu2) (fz_heap hc2 hs2)) (i_173 p h most hP hH (A := [2, 0]) (B := [2, 3]) dj23 m2)
  obtain ⟨A3, l3, k3⟩ := A2.next e3 (fun id q hq => let ⟨a, b, _⟩ := i3' id q hq; ⟨a, b, List.nil_prefix⟩) j3
  have hu3 := l3 _ _ _ hu2
  have hc3 := l3 _ _ _ hc2
  have hs3 := l3 _ _ _ hs2
  have hv3 := k3 _ _ _ f3
  have hw3 := k3 _ _ _ f3'
  dsimp only at a3 hu3 hc3 hs3 hv3 hw3
  generalize hW3 : joinW m2 W2 o3 = W3 at *
  generalize hH3 : ovr H2 g3 = H3 at *
  obtain ⟨hgu, hpu⟩ := own_vals hu3
  obtain ⟨hgc, hpc⟩ := own_vals hc3
  obtain ⟨hgs, hps⟩ := own_vals hs3
  generalize outR p h most = RR at *
  obtain ⟨R0, R1⟩ := RR
  dsimp only at *
  -- compared
  have y11 := y_11 (mt := MT) p hP
  have y12 := y_12 (mt := MT) h hH
  have y12r := y_12 (mt := MT) R0 hR
  have b1 := fun n => q_snap (G := ⟨n, H3⟩) (fz2 (b := aHeap R0) (fz_heap hv3 hw3) rfl) y12r rfl
  have b2 := fun n => q_snap (G := ⟨n, H3⟩) (fz2 (b := aProg p) (fz_prog hu3) rfl) y11 rfl
  have b3 := fun n => q_snap (G := ⟨n, H3⟩) (fz2 (b := aHeap h) (fz_heap hc3 hs3) rfl) y12 rfl
  -- marked
  have hn1 := cntLMethod_le p ⟨hP.l, hP.m⟩
  have hn2 := cntLCall_le h.calls ⟨hH.l, hH.c⟩
  have hn3 := cntLVal_le h.said hH.s
  have hn4 := cntLCall_le R0.calls ⟨hR.l, hR.c⟩
  have hn5 := cntLVal_le R0.said hR.s
  simp [c_169, qx, hx0', qy, hy0', q7, q8, q13, hN, a1, a2, hH2, a3, hH3, b1, b2, b3, v1.k, v1.g, v1.p, v1.c, v2.k, v2.g, v2.p, v2.c, hgu, hpu, hgc, hpc, hgs, hps]
  refine Gv.bindK (k_16 (mt := MT) p 1 hP (by omega) (by omega) hu3) (fun H4 hd => ?_)
  obtain ⟨d1, d2⟩ := hd
  have hc4 := hc3.mono (keep_of d2 (fun j s h5 h6 => by have := pre_head h5 h6; omega))
  have hs4 := hs3.mono (keep_of d2 (fun j s h5 h6 => by have := pre_head h5 h6; omega))
  have hv4 := hv3.mono (keep_of d2 (fun j s h5 h6 => by have := pre_head h5 h6; omega))
  have hw4 := hw3.mono (keep_of d2 (fun j s h5 h6 => by have := pre_head h5 h6; omega))
  simp
  refine Gv.bindK (k_17 (mt := MT) h _ hH (by omega) (by omega) hc4 hs4 (by intro s h1 h2; simpa using pre_c (p := []) h1 h2)) (fun H5 hd => ?_)
  have kp5 : ∀ {q : List Nat} {a v : AVal}, Own H4 W3 (2 :: q) a v → Own H5 W3 (2 :: q) a v := fun ho => ho.mono (g' := H5) (ow' := W3) (fun j s hj h5 => ⟨fun es he => by
    rw [hd j (fun s' hs' => by
      rw [hj] at hs'; injection hs' with e; subst e
      exact ⟨fun h6 => by have := pre_head h5 h6; omega, fun h6 => by have := pre_head h5 h6; omega⟩)]
    exact he, hj⟩)
  have hv5 := kp5 hv4
  have hw5 := kp5 hw4
  have b4 := fun n => q_snap (G := ⟨n, H5⟩) (fz2 (b := aHeap R0) (fz_heap hv5 hw5) rfl) y12r rfl
  have hneg : ¬ (1 + (cntL cntMethod p : Int) + cntL cntCall h.calls + cntL cntVal h.said < 0) := by omega
  simp [b4, hneg, v1.k, v1.g, v1.p, v1.c, v2.k, v2.g, v2.p, v2.c]
  refine Gv.bindK (k_17o (mt := MT) R0 1 hR (by omega) (by omega) hv5 hw5 dj23) (fun H6 hd => ?_)
  obtain ⟨d4, d5, d6⟩ := hd
  have y19 := d_185 (mt := MT) R0 1 hR (by omega) (by omega)
  have b5 := fun n => q_snap (G := ⟨n, H6⟩) (fz2 (b := vi 1) (fz_heap (h := mkHp 1 R0) d4 d5) rfl) y19 rfl
  have b6 := fun n => q_snap (mt := MT) (G := ⟨n, H6⟩) (fz2 (H := H6) (a := aHeap R0) (b := aHeap R0) rfl rfl) y12r rfl
  have hneg2 : ¬ (1 + (cntL cntCall R0.calls : Int) + cntL cntVal R0.said < 0) := by omega
  have e1 : (mkHp 1 R0).now = R0.now := rfl
  have e2 : (mkHp 1 R0).born = R0.born := rfl
  have e3' : (mkHp 1 R0).code = R0.code := rfl
  rw [e1, e2, e3'] at b5
  simp [b5, b6, hneg2, q7, q8, q14, v1.k, v1.g, v1.p, v1.c, v2.k, v2.g, v2.p, v2.c]
  exact Gv.bool (by have := A3.le; repeat (first | omega | apply le_nxt)) rfl
end Go.Ai
set_option linter.unusedSimpArgs false
set_option linter.unusedVariables false
namespace Go.Ai
attribute [local simp] cnd_ite gS_ite callBy_whole

theorem q_182 (p : GProg) (h : GHeap) (most : Int) (hp : ShP p) (hh : ShH h) : Q MT 182 [aProg p, aHeap h, vi most] (.tuple [aHeap (overR p h most).1, .bool (overR p h most).2]) :=
  Q.of rfl (fun k => outB_gv (i_182 p h most hp hh (A := [2, 0]) (B := [2, 3]) dj23 k))
theorem law_170 (p : GProg) (h : GHeap) (most : Int) (hp : SmP p) (hh : SmH h) (k : Nat) : Gv k (.bool true) (run AP MT 170 [aProg p, aHeap h, vi most] ⟨k, noObj⟩) := by
  obtain ⟨x, hx, hxs, qx⟩ := z_4 (mt := MT) p hp 1048576 (by omega)
  unfold QQ at qx
  rw [run_evS AP_170 _ _ rfl]
  rcases Int.lt_or_le x 0 with hx0 | hx0
  · simp [c_170, qx, hx0]
    exact Gv.bool (by repeat (first | exact Nat.le_refl _ | apply le_nxt)) rfl
  have hx0' : ¬ x < 0 := by omega
  obtain ⟨y, hy, hys, qy⟩ := z_5 (mt := MT) h hh x ⟨hx0, hx.2⟩
  unfold QQ at qy
  rcases Int.lt_or_le y 0 with hy0 | hy0
  · simp [c_170, qx, hx0', qy, hy0]
    exact Gv.bool (by repeat (first | exact Nat.le_refl _ | apply le_nxt)) rfl
  have hy0' : ¬ y < 0 := by omega
  have hP := (hxs hx0).sh
  have hH := (hys hy0).sh
  have hR : ShH (overR p h most).1 := overR_sh p h most (hys hy0).s
  have q7 := tq_7 (mt := MT) p hP
  have q8 := tq_8 (mt := MT) h hH
  have q13 := s_181 (mt := MT) p h most hP hH (by have := (hys hy0).s; omega)
  have q14 := q_182 p h most hP hH
  unfold Q at q7 q8 q13 q14
  generalize hN : nxt AP MT 181 [aProg p, aHeap h, vi most] (nxt AP MT 8 [aHeap h] (nxt AP MT 7 [aProg p] (nxt AP MT 5 [aHeap h, vi x] (nxt AP MT 4 [aProg p, vi 1048576] k)))) = N
  have hkN : k ≤ N := by rw [← hN]; repeat (first | exact Nat.le_refl _ | apply le_nxt)
  -- x0, x1, g0
  have A0 := Acc.start N []
  obtain ⟨row0, m1, g1, o1, a1, e1, f1, i1', j1⟩ := own_callA (mt := MT) (by rfl) (t_7 (mt := MT) p hP) ⟨N, noObj⟩ [] 0 0
  obtain ⟨u, rfl, f0⟩ := f1.one
  obtain ⟨A1, l1, k1⟩ := A0.next e1 (fun id q hq => let ⟨a, b, _⟩ := i1' id q hq; ⟨a, b, List.nil_prefix⟩) j1
  obtain ⟨row1, m2, g2, o2, a2, e2, f2, i2', j2⟩ := own_callA (mt := MT) (by rfl) (t_8 (mt := MT) h hH) ⟨m1, ovr noObj g1⟩ [] 1 0
  obtain ⟨A2, l2, k2⟩ := A1.next e2 (fun id q hq => let ⟨a, b, _⟩ := i2' id q hq; ⟨a, b, List.nil_prefix⟩) j2
  obtain ⟨x0, x1, x2, x3, x4, rfl, p0, p1, p2, p3, p4⟩ : ∃ x0 x1 x2 x3 x4, row1 = [x0, x1, x2, x3, x4] ∧ Own g2 o2 [1, 0] (lCall h.calls) x0 ∧ Own g2 o2 [1, 1] (vi h.now) x1 ∧ Own g2 o2 [1, 2] (vi h.born) x2 ∧ Own g2 o2 [1, 3] (lVal h.said) x3 ∧ Own g2 o2 [1, 4] (vi h.code) x4 := by
    match row1, f2 with
    | [x0, x1, x2, x3, x4], ⟨p0, p1, p2, p3, p4, _⟩ => exact ⟨x0, x1, x2, x3, x4, rfl, p0, p1, p2, p3, p4⟩
  have e := own_scal_inv (by rfl) p1
  subst e
  have e := own_scal_inv (by rfl) p2
  subst e
  have e := own_scal_inv (by rfl) p4
  subst e
  have hu2 := l2 _ _ _ (k1 _ _ _ f0)
  have hc2 := k2 _ _ _ p0
  have hs2 := k2 _ _ _ p3
  generalize hW2 : joinW m1 (joinW N (fun _ => none) o1) o2 = W2 at *
  generalize hH2 : ovr (ovr noObj g1) g2 = H2 at *
  obtain ⟨cv, sv, m3, g3, o3, a3, e3, f3, f3', i3', j3, v1, v2⟩ := b_snap (G := ⟨m2, H2⟩) (A := [2, 0]) (B := [2, 3]) (fz3 (fz_prog hu2) (fz_heap hc2 hs2)) (i_182 p h most hP hH (A := [2, 0]) (B := [2, 3]) dj23 m2)
  obtain ⟨A3, l3, k3⟩ := A2.next e3 (fun id q hq => let ⟨a, b, _⟩ := i3' id q hq; ⟨a, b, List.nil_prefix⟩) j3
  have hu3 := l3 _ _ _ hu2
  have hc3 := l3 _ _ _ hc2
  have hs3 := l3 _ _ _ hs2
  have hv3 := k3 _ _ _ f3
  have hw3 := k3 _ _ _ f3'
  dsimp only at a3 hu3 hc3 hs3 hv3 hw3
  generalize hW3 : joinW m2 W2 o3 = W3 at *
  generalize hH3 : ovr H2 g3 = H3 at *
  obtain ⟨hgu, hpu⟩ := own_vals hu3
  obtain ⟨hgc, hpc⟩ := own_vals hc3
  obtain ⟨hgs, hps⟩ := own_vals hs3
  generalize overR p h most = RR at *
  obtain ⟨R0, R1⟩ := RR
  dsimp only at *
  -- compared
  have y11 := y_11 (mt := MT) p hP
  have y12 := y_12 (mt := MT) h hH
  have y12r := y_12 (mt := MT) R0 hR
  have b1 := fun n => q_snap (G := ⟨n, H3⟩) (fz2 (b := aHeap R0) (fz_heap hv3 hw3) rfl) y12r rfl
  have b2 := fun n => q_snap (G := ⟨n, H3⟩) (fz2 (b := aProg p) (fz_prog hu3) rfl) y11 rfl
  have b3 := fun n => q_snap (G := ⟨n, H3⟩) (fz2 (b := aHeap h) (fz_heap hc3 hs3) rfl) y12 rfl
  -- marked
  have hn1 := cntLMethod_le p ⟨hP.l, hP.m⟩
  have hn2 := cntLCall_le h.calls ⟨hH.l, hH.c⟩
  have hn3 := cntLVal_le h.said hH.s
  have hn4 := cntLCall_le R0.calls ⟨hR.l, hR.c⟩
  have hn5 := cntLVal_le R0.said hR.s
  simp [c_170, qx, hx0', qy, hy0', q7, q8, q13, hN, a1, a2, hH2, a3, hH3, b1, b2, b3, v1.k, v1.g, v1.p, v1.c, v2.k, v2.g, v2.p, v2.c, hgu, hpu, hgc, hpc, hgs, hps]
  refine Gv.bindK (k_16 (mt := MT) p 1 hP (by omega) (by omega) hu3) (fun H4 hd => ?_)
  obtain ⟨d1, d2⟩ := hd
  have hc4 := hc3.mono (keep_of d2 (fun j s h5 h6 => by have := pre_head h5 h6; omega))
  have hs4 := hs3.mono (keep_of d2 (fun j s h5 h6 => by have := pre_head h5 h6; omega))
  have hv4 := hv3.mono (keep_of d2 (fun j s h5 h6 => by have := pre_head h5 h6; omega))
  have hw4 := hw3.mono (keep_of d2 (fun j s h5 h6 => by have := pre_head h5 h6; omega))
  simp
  refine Gv.bindK (k_17 (mt := MT) h _ hH (by omega) (by omega) hc4 hs4 (by intro s h1 h2; simpa using pre_c (p := []) h1 h2)) (fun H5 hd => ?_)
  have kp5 : ∀ {q : List Nat} {a v : AVal}, Own H4 W3 (2 :: q) a v → Own H5 W3 (2 :: q) a v := fun ho => ho.mono (g' := H5) (ow' := W3) (fun j s hj h5 => ⟨fun es he => by
    rw [hd j (fun s' hs' => by
      rw [hj] at hs'; injection hs' with e; subst e
      exact ⟨fun h6 => by have := pre_head h5 h6; omega, fun h6 => by have := pre_head h5 h6; omega⟩)]
    exact he, hj⟩)
  have hv5 := kp5 hv4
  have hw5 := kp5 hw4
  have b4 := fun n => q_snap (G := ⟨n, H5⟩) (fz2 (b := aHeap R0) (fz_heap hv5 hw5) rfl) y12r rfl
  have hneg : ¬ (1 + (cntL cntMethod p : Int) + cntL cntCall h.calls + cntL cntVal h.said < 0) := by omega
  simp [b4, hneg, v1.k, v1.g, v1.p, v1.c, v2.k, v2.g, v2.p, v2.c]
  refine Gv.bindK (k_17o (mt := MT) R0 1 hR (by omega) (by omega) hv5 hw5 dj23) (fun H6 hd => ?_)
  obtain ⟨d4, d5, d6⟩ := hd
  have y19 := d_185 (mt := MT) R0 1 hR (by omega) (by omega)
  have b5 := fun n => q_snap (G := ⟨n, H6⟩) (fz2 (b := vi 1) (fz_heap (h := mkHp 1 R0) d4 d5) rfl) y19 rfl
  have b6 := fun n => q_snap (mt := MT) (G := ⟨n, H6⟩) (fz2 (H := H6) (a := aHeap R0) (b := aHeap R0) rfl rfl) y12r rfl
  have hneg2 : ¬ (1 + (cntL cntCall R0.calls : Int) + cntL cntVal R0.said < 0) := by omega
  have e1 : (mkHp 1 R0).now = R0.now := rfl
  have e2 : (mkHp 1 R0).born = R0.born := rfl
  have e3' : (mkHp 1 R0).code = R0.code := rfl
  rw [e1, e2, e3'] at b5
  simp [b5, b6, hneg2, q7, q8, q14, v1.k, v1.g, v1.p, v1.c, v2.k, v2.g, v2.p, v2.c]
  exact Gv.bool (by have := A3.le; repeat (first | omega | apply le_nxt)) rfl
end Go.Ai
