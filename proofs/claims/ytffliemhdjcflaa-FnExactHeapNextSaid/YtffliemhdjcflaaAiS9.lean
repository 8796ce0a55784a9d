/- Operations that change the world: each one's run. -/
import Derived.Test.YtffliemhdjcflaaAiS8
set_option linter.unusedVariables false
set_option linter.unusedSimpArgs false
namespace Go.Ai
variable {M : SM}

section
variable {bx : List Nat} {N : Nat} {C0 : Cx} {w0 : World} {L : Nat → Prop} {C C' : Cx} {β : Nat → Nat} {fr fr' : Fr} {G G' : AG} {a : Act} {w w' : World}
variable {call : CallF} {mt : Nat → Nat → Option Nat} {dst : Option Tmp} {ty : TypeId} {pos : String} {after : Array Edge} {guard : Option (Nat × Bool)} {j : Nat}

/-- What an operation that changes the world comes to. -/
def Goes (M : SM) (bx : List Nat) (N : Nat) (C0 : Cx) (w0 : World) (L : Nat → Prop) (fr' : Fr) (G' : AG) (a : Act) (w : World) (dst : Option Tmp) (r : Result Next) : Prop :=
  ∃ C' β' w' V, St M bx N C0 w0 L C' β' fr' G' (a.put dst V) w' ∧ (r = .ok (.value V) w' ∨ (r = .ok .skip w' ∧ V = undef))

theorem nonempty_cur {cs : List AVal} {V : Value} (hl : cs.length = V.cells.size) (hne : cs ≠ []) : 0 < V.cells.size := by rw [← hl]; exact List.length_pos_iff.2 hne
/-- One element in a block of its own. -/
theorem ob_one {C : Cx} {b : Nat} {cs : List AVal} {cur : Array Value} (hc : CsR M C cs cur 0) (hl : cs.length = cur.size) (hne : cs ≠ []) : ObR M C ⟨b, cur.size, 1⟩ [cs] cur := by
  refine ⟨?_, by simp, by simp [maxLen], by simp, fun i e he => ?_⟩
  · show 0 < cur.size
    rw [← hl]; exact List.length_pos_iff.2 hne
  · have hi : i = 0 := by have := (List.getElem?_eq_some_iff.1 he).1; simpa using this
    subst hi
    simp at he
    subst he
    exact ⟨hl, by simpa using hc⟩
theorem gcells_eq {x : Opd} {cs : List AVal} (h : gcells fr x = some cs) : True := trivial
theorem e_boxP (h : St M bx N C0 w0 L C β fr G a w) {x : Opd} {t : TypeId} {X : Operand} (hx : OpR M x X) (hd : ∀ t, dst = some t → t < N ∧ t ∈ bx)
    (he : evD call mt ⟨j, dst, none, .boxP x⟩ fr G = some (fr', G')) : Goes M bx N C0 w0 L fr' G' a w dst ((execOp a.eval ⟨dst, .box t X, ty, pos, after, guard⟩).run M.P w) := by
  cases dst with
  | none => cases he
  | some d =>
    simp only [evD] at he
    split at he
    · rename_i hu
      simp only [Option.bind_eq_some_iff] at he
      obtain ⟨cs, hcs, he⟩ := he
      injection he with he; injection he with h1 h2
      subst h1 h2
      obtain ⟨hc1, hc2⟩ := h.gcells hx hcs
      refine ⟨_, _, _, _, h.box_new (hd d rfl).1 (hd d rfl).2 hu (ty := t) hc2.symm hc1, .inl ?_⟩
      simp [execOp, Instr.box, newVar, newRow]
    · cases he
theorem e_allocP (h : St M bx N C0 w0 L C β fr G a w) {z : List AVal} {t : TypeId} {zv : Value} (hz : (M.P.info? t).bind (·.zero) = some zv) (hr : ∀ C, CsR M C z zv.cells 0 ∧ z.length = zv.cells.size) (hd : ∀ t, dst = some t → t < N ∧ t ∈ bx)
    (he : evD call mt ⟨j, dst, none, .allocP z⟩ fr G = some (fr', G')) : Goes M bx N C0 w0 L fr' G' a w dst ((execOp a.eval ⟨dst, .alloc t, ty, pos, after, guard⟩).run M.P w) := by
  cases dst with
  | none => cases he
  | some d =>
    simp only [evD] at he
    split at he
    · rename_i hu
      injection he with he; injection he with h1 h2
      subst h1 h2
      obtain ⟨hc1, hc2⟩ := hr C
      refine ⟨_, _, _, _, h.box_new (hd d rfl).1 (hd d rfl).2 hu (ty := t) hc2.symm hc1, .inl ?_⟩
      obtain ⟨i0, hi0, hz0⟩ := Option.bind_eq_some_iff.1 hz
      simp [execOp, Instr.alloc, zeroValue, typeInfo, hi0, hz0, newVar, newRow]
    · cases he
theorem St.ptr0 {C : Cx} {id : Nat} {o : OI} (hn : C.n = id) : VR M (newC C id o) (.ptr id 0 0) (.pointer (some ⟨o.blk, 0, none⟩)) := by
  have := VR.ptr (M := M) (C := newC C id o) id 0 0 (Nat.lt_succ_self id)
  simpa [newC] using this
theorem e_boxH (h : St M bx N C0 w0 L C β fr G a w) {x : Opd} {t : TypeId} {X : Operand} (hx : OpR M x X) (hd : ∀ t, dst = some t → t < N ∧ t ∉ bx)
    (he : evD call mt ⟨j, dst, none, .boxH x⟩ fr G = some (fr', G')) : Goes M bx N C0 w0 L fr' G' a w dst ((execOp a.eval ⟨dst, .box t X, ty, pos, after, guard⟩).run M.P w) := by
  simp only [evD, evOp, Option.bind_eq_some_iff] at he
  obtain ⟨r, ⟨cs, hcs, hr⟩, he⟩ := he
  split at hr
  · cases hr
  · rename_i hne
    injection hr with hr
    subst hr
    injection he with he; injection he with h1 h2
    subst h1 h2
    obtain ⟨hc1, hc2⟩ := h.gcells hx hcs
    obtain ⟨h3, h4⟩ := h.new (esz := (a.eval X).cells.size) (cap := 1) (ty := t) (ob_one (b := w.heap.size) hc1 hc2 hne)
    refine ⟨_, _, _, .pointer (some ⟨w.heap.size, 0, none⟩), h3.put hd (evR_of_VR (St.ptr0 h.gr.n)), .inl ?_⟩
    simp [execOp, Instr.box, newVar, newRow]
theorem e_allocH (h : St M bx N C0 w0 L C β fr G a w) {z : List AVal} {t : TypeId} {zv : Value} (hz : (M.P.info? t).bind (·.zero) = some zv) (hr : ∀ C, CsR M C z zv.cells 0 ∧ z.length = zv.cells.size) (hne : z ≠ []) (hd : ∀ t, dst = some t → t < N ∧ t ∉ bx)
    (he : evD call mt ⟨j, dst, none, .allocH z⟩ fr G = some (fr', G')) : Goes M bx N C0 w0 L fr' G' a w dst ((execOp a.eval ⟨dst, .alloc t, ty, pos, after, guard⟩).run M.P w) := by
  simp only [evD, evOp, Option.bind_some] at he
  injection he with he; injection he with h1 h2
  subst h1 h2
  obtain ⟨hc1, hc2⟩ := hr C
  obtain ⟨h3, h4⟩ := h.new (esz := zv.cells.size) (cap := 1) (ty := t) (ob_one (b := w.heap.size) hc1 hc2 hne)
  refine ⟨_, _, _, .pointer (some ⟨w.heap.size, 0, none⟩), h3.put hd (evR_of_VR (St.ptr0 h.gr.n)), .inl ?_⟩
  obtain ⟨i0, hi0, hz0⟩ := Option.bind_eq_some_iff.1 hz
  simp [execOp, Instr.alloc, zeroValue, typeInfo, hi0, hz0, newVar, newRow]

/-! ### stores -/
theorem arr_splice {cur : Array Value} {p : Nat} {vs : List Value} (hfit : p + vs.length ≤ cur.size) : (cur.toList.take p ++ vs ++ cur.toList.drop (p + vs.length)).toArray.size = cur.size ∧
    ∀ i, (cur.toList.take p ++ vs ++ cur.toList.drop (p + vs.length)).toArray[i]? = if p ≤ i ∧ i < p + vs.length then vs[i - p]? else cur[i]? := by
  constructor
  · simp; omega
  · intro i
    have hp : p ≤ cur.toList.length := by simp; omega
    simp only [List.getElem?_toArray, List.append_assoc]
    by_cases h1 : i < p
    · rw [if_neg (by omega), List.getElem?_append_left (by simp; omega), List.getElem?_take, if_pos h1]; simp
    · rw [List.getElem?_append_right (by simp; omega)]
      have hl : (cur.toList.take p).length = p := by simp; omega
      rw [hl]
      by_cases h2 : i < p + vs.length
      · rw [if_pos ⟨by omega, h2⟩, List.getElem?_append_left (by omega)]
      · rw [if_neg (by omega), List.getElem?_append_right (by omega), List.getElem?_drop]
        rw [show p + vs.length + (i - p - vs.length) = i by omega]
        simp
theorem CsR.splice {C : Cx} {cs vs : List AVal} {cur V : Array Value} {p c : Nat} (h : CsR M C cs cur p) (hv : CsR M C vs V 0) (hl : vs.length = V.size) (hf : c + vs.length ≤ cs.length) :
    CsR M C (splice cs c vs) (cur.toList.take (p + c) ++ V.toList ++ cur.toList.drop (p + c + V.toList.length)).toArray p := by
  have hlen : V.toList.length = vs.length := by rw [Array.length_toList]; exact hl.symm
  have hfit := h.fit
  obtain ⟨h1, h2⟩ := arr_splice (cur := cur) (p := p + c) (vs := V.toList) (by rw [hlen]; omega)
  refine ⟨by rw [h1, splice_length]; exact hfit, fun i x y hx hy => ?_⟩
  have hi : i < cs.length := by have := (List.getElem?_eq_some_iff.1 hx).1; rwa [splice_length] at this
  rw [splice_at vs cs c i hi] at hx
  rw [h2] at hy
  by_cases hc : c ≤ i ∧ i < c + vs.length
  · rw [if_pos hc] at hx
    rw [if_pos (by rw [hlen]; omega)] at hy
    refine hv.at_ (i - c) x y hx ?_
    rw [show p + i - (p + c) = i - c by omega] at hy
    rw [Nat.zero_add]; simpa using hy
  · rw [if_neg hc] at hx
    rw [if_neg (by rw [hlen]; omega)] at hy
    exact h.at_ i x y hx hy
theorem run_store (P : Program) (w : World) (t : TypeId) (V : Value) {n b o : Nat} {cur : Array Value} {et : TypeId} (hs : (P.info? t).map (·.size) = some n) (hn : V.cells.size = n) (hb : w.heap[b]? = some (.cells cur et (0, 0))) (hfit : o + n ≤ cur.size) (h1 : ∀ v ∈ V.cells, v.oneCell' = true) :
    (Instr.storeAt t (.pointer (some ⟨b, o, none⟩)) V).run P w = .ok () (w.setRow b (cur.toList.take o ++ V.cells.toList ++ cur.toList.drop (o + V.cells.toList.length)).toArray) := by
  have hst := run_storeCells_at P b o et V.cells.toList 0 cur w hb (by simp [hn]; exact hfit) (fun v hv => h1 v (by simpa using hv))
  simp only [Nat.add_zero] at hst
  simp only [Instr.storeAt, Sem.run_bind, Instr.sureAddr, Sem.run_pure, Result.andThen_ok, storeVar, run_sizeOf hs, hn, ne_eq, not_true, if_false]
  exact hst
theorem cells_one {C : Cx} {vs : List AVal} {V : Array Value} (h : CsR M C vs V 0) (hl : vs.length = V.size) : ∀ v ∈ V, v.oneCell' = true := by
  intro v hv
  obtain ⟨i, hi, rfl⟩ := Array.getElem_of_mem hv
  have hi2 : i < vs.length := by rw [hl]; exact hi
  exact (h.at_ i _ _ (List.getElem?_eq_getElem hi2) (by rw [Nat.zero_add]; exact Array.getElem?_eq_getElem hi)).one
theorem e_store (h : St M bx N C0 w0 L C β fr G a w) {n : Nat} {x v : Opd} {t : TypeId} {X V : Operand} (hx : OpR M x X) (hv : OpR M v V) (hs : (M.P.info? t).map (·.size) = some n) (hd : dst = none)
    (he : evD call mt ⟨j, dst, none, .store n x v⟩ fr G = some (fr', G')) : Goes M bx N C0 w0 L fr' G' a w dst ((execOp a.eval ⟨dst, .store t X V, ty, pos, after, guard⟩).run M.P w) := by
  subst hd
  simp only [evD, Option.bind_eq_some_iff] at he
  obtain ⟨vs, hvs, he⟩ := he
  split at he
  · rename_i hn
    obtain ⟨hc1, hc2⟩ := h.gcells hv hvs
    have hX := h.ev hx
    have h1 := cells_one hc1 hc2
    generalize x.ev fr = xv at he hX
    cases xv <;> simp only at he <;> try (cases he; done)
    case pptr d c =>
      split at he
      · rename_i cs hd
        split at he
        · rename_i hle
          injection he with he; injection he with h2 h3
          subst h2 h3
          obtain ⟨_, _, ⟨cur, et, hb, hsz, hcs⟩, _⟩ := h.box d cs hd
          have hsp := hcs.splice hc1 hc2 (c := c) (by omega)
          have hlen : (a.eval V).cells.toList.length = vs.length := by rw [Array.length_toList]; exact hc2.symm
          obtain ⟨h4, _⟩ := arr_splice (cur := cur) (p := c) (vs := (a.eval V).cells.toList) (by rw [hlen]; omega)
          simp only [Nat.zero_add] at hsp
          refine ⟨C, β, _, undef, h.box_set hd (by rw [splice_length, ← hsz]; exact h4) hsp, .inr ⟨?_, rfl⟩⟩
          have hrs := run_store (n := n) (o := c) M.P w t (a.eval V) hs (by rw [← hc2]; exact hn) hb (by omega) h1
          simp only [execOp, Sem.run_bind, hX.1, hrs, Result.andThen_ok, Sem.run_pure]
        · cases he
      · cases he
    case ptr id i c =>
      simp only [Option.bind_eq_some_iff] at he
      obtain ⟨es, hes, e, hei, he⟩ := he
      split at he
      · rename_i hle
        injection he with he; injection he with h2 h3
        subst h2 h3
        obtain ⟨hid, hA⟩ := vr_ptr (show VR M C (.ptr id i c) (a.eval X) from hX)
        obtain ⟨hlt, cur, et, hb, ho⟩ := h.gr.ob id es hes
        obtain ⟨hel, hcs⟩ := ho.el i e hei
        have hsp := hcs.splice hc1 hc2 (c := c) (by omega)
        have hfit := hcs.fit
        have hlen : (a.eval V).cells.toList.length = vs.length := by rw [Array.length_toList]; exact hc2.symm
        obtain ⟨h4, h5⟩ := arr_splice (cur := cur) (p := i * (C.io id).esz + c) (vs := (a.eval V).cells.toList) (by rw [hlen]; omega)
        refine ⟨C, β, _, undef, h.set (cur' := (cur.toList.take (i * (C.io id).esz + c) ++ (a.eval V).cells.toList ++ cur.toList.drop (i * (C.io id).esz + c + (a.eval V).cells.toList.length)).toArray) hes hb ⟨ho.pos, by rw [h4]; exact ho.size, ho.big, by simpa using ho.fit, fun k ek hek => ?_⟩, .inr ⟨?_, rfl⟩⟩
        · rw [List.getElem?_set] at hek
          split at hek
          · rename_i hik
            subst hik
            split at hek
            · injection hek with hek
              subst hek
              exact ⟨by rw [splice_length]; exact hel, hsp⟩
            · cases hek
          · rename_i hik
            obtain ⟨hk1, hk2⟩ := ho.el k ek hek
            refine ⟨hk1, by rw [h4]; exact hk2.fit, fun q x y hx hy => ?_⟩
            rw [h5] at hy
            have hq : q < (C.io id).esz := by rw [← hk1]; exact (List.getElem?_eq_some_iff.1 hx).1
            rw [if_neg] at hy
            · exact hk2.at_ q x y hx hy
            · rw [hlen]
              intro hh
              -- two elements do not overlap
              rcases Nat.lt_or_gt_of_ne hik with hik' | hik'
              · have : (i + 1) * (C.io id).esz ≤ k * (C.io id).esz := Nat.mul_le_mul_right _ hik'
                rw [Nat.add_mul] at this
                omega
              · have : (k + 1) * (C.io id).esz ≤ i * (C.io id).esz := Nat.mul_le_mul_right _ hik'
                rw [Nat.add_mul] at this
                omega
        · have hrs := run_store (n := n) (o := i * (C.io id).esz + c) M.P w t (a.eval V) hs (by rw [← hc2]; exact hn) hb (by omega) h1
          simp only [execOp, Sem.run_bind, hA, hrs, Result.andThen_ok, Sem.run_pure]
      · cases he
  · cases he
end
end Go.Ai
