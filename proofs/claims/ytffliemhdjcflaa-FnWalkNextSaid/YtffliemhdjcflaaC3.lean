/- Operations that change the world: each one's run. append, literals, make, copy. Literals, make, copy. What is written out: a value in place of what it leads to. -/
import Derived.Test.YtffliemhdjcflaaC2
set_option linter.unusedVariables false
set_option linter.unusedSimpArgs false
namespace Go.Ai
variable {M : SM}

section
variable {bx : List Nat} {N : Nat} {C0 : Cx} {w0 : World} {L : Nat → Prop} {C C' : Cx} {β : Nat → Nat} {fr fr' : Fr} {G G' : AG} {a : Act} {w w' : World}
variable {call : CallF} {mt : Nat → Nat → Option Nat} {dst : Option Tmp} {ty : TypeId} {pos : String} {after : Array Edge} {guard : Option (Nat × Bool)} {j : Nat}

/-- What an operation that changes the world comes to. -/
def Goes (M : SM) (bx : List Nat) (N : Nat) (C0 : Cx) (w0 : World) (L : Nat → Prop) (fr' : Fr) (G' : AG) (a : Act) (w : World) (dst : Option Tmp) (r : Result Next) : Prop :=
  ∃ C' β' w' V, St M bx N C0 w0 L C' β' fr' G' (a.put dst V) w' ∧ (r = .ok (.value V) w' ∨ (r = .ok .skip w' ∧ V = undef))

/-- One element in a block of its own. -/
theorem ob_one {C : Cx} {b : Nat} {cs : List AVal} {cur : Array Value} (hc : CsR M C cs cur 0) (hl : cs.length = cur.size) (hne : cs ≠ []) : ObR M C ⟨b, cur.size, 1⟩ [cs] cur := by
  refine ⟨?_, by simp, by simp [maxLen], by simp, fun i e he => ?_⟩
  · show 0 < cur.size
    rw [← hl]; exact List.length_pos_iff.2 hne
  · have hi : i = 0 := by have := (List.getElem?_eq_some_iff.1 he).1; simpa using this
    subst hi
    simp at he
    subst he
    exact ⟨hl, by simpa using hc⟩
theorem e_boxP (h : St M bx N C0 w0 L C β fr G a w) {x : Opd} {t : TypeId} {X : Operand} (hx : OpR M x X) (hd : ∀ t, dst = some t → t < N ∧ t ∈ bx)
    (he : evD call mt ⟨j, dst, none, .boxP x⟩ fr G = some (fr', G')) : Goes M bx N C0 w0 L fr' G' a w dst ((execOp a.eval ⟨dst, .box t X, ty, pos, after, guard⟩).run M.P w) := by
  cases dst with
  | none => cases he
  | some d =>
    simp only [evD] at he
    split at he
    · rename_i hu
      simp only [Option.bind_eq_some_iff] at he
      obtain ⟨cs, hcs, he⟩ := he
      injection he with he; injection he with h1 h2
      subst h1 h2
      obtain ⟨hc1, hc2⟩ := h.gcells hx hcs
      refine ⟨_, _, _, _, h.box_new (hd d rfl).1 (hd d rfl).2 hu (ty := t) hc2.symm hc1, .inl ?_⟩
      simp [execOp, Instr.box, newVar, newRow]
    · cases he
theorem e_allocP (h : St M bx N C0 w0 L C β fr G a w) {z : List AVal} {t : TypeId} {zv : Value} (hz : (M.P.info? t).bind (·.zero) = some zv) (hr : ∀ C, CsR M C z zv.cells 0 ∧ z.length = zv.cells.size) (hd : ∀ t, dst = some t → t < N ∧ t ∈ bx)
    (he : evD call mt ⟨j, dst, none, .allocP z⟩ fr G = some (fr', G')) : Goes M bx N C0 w0 L fr' G' a w dst ((execOp a.eval ⟨dst, .alloc t, ty, pos, after, guard⟩).run M.P w) := by
  cases dst with
  | none => cases he
  | some d =>
    simp only [evD] at he
    split at he
    · rename_i hu
      injection he with he; injection he with h1 h2
      subst h1 h2
      obtain ⟨hc1, hc2⟩ := hr C
      refine ⟨_, _, _, _, h.box_new (hd d rfl).1 (hd d rfl).2 hu (ty := t) hc2.symm hc1, .inl ?_⟩
      obtain ⟨i0, hi0, hz0⟩ := Option.bind_eq_some_iff.1 hz
      simp [execOp, Instr.alloc, zeroValue, typeInfo, hi0, hz0, newVar, newRow]
    · cases he
theorem St.ptr0 {C : Cx} {id : Nat} {o : OI} (hn : C.n = id) : VR M (newCx C id o) (.ptr id 0 0) (.pointer (some ⟨o.blk, 0, none⟩)) := by
  have := VR.ptr (M := M) (C := newCx C id o) id 0 0 (Nat.lt_succ_self id)
  simpa [newCx] using this
theorem e_boxH (h : St M bx N C0 w0 L C β fr G a w) {x : Opd} {t : TypeId} {X : Operand} (hx : OpR M x X) (hd : ∀ t, dst = some t → t < N ∧ t ∉ bx)
    (he : evD call mt ⟨j, dst, none, .boxH x⟩ fr G = some (fr', G')) : Goes M bx N C0 w0 L fr' G' a w dst ((execOp a.eval ⟨dst, .box t X, ty, pos, after, guard⟩).run M.P w) := by
  simp only [evD, evOp, Option.bind_eq_some_iff] at he
  obtain ⟨r, ⟨cs, hcs, hr⟩, he⟩ := he
  split at hr
  · cases hr
  · rename_i hne
    injection hr with hr
    subst hr
    injection he with he; injection he with h1 h2
    subst h1 h2
    obtain ⟨hc1, hc2⟩ := h.gcells hx hcs
    obtain ⟨h3, h4⟩ := h.new (esz := (a.eval X).cells.size) (cap := 1) (ty := t) (ob_one (b := w.heap.size) hc1 hc2 hne)
    refine ⟨_, _, _, .pointer (some ⟨w.heap.size, 0, none⟩), h3.put hd (evR_of_VR (St.ptr0 h.gr.n)), .inl ?_⟩
    simp [execOp, Instr.box, newVar, newRow]
theorem e_allocH (h : St M bx N C0 w0 L C β fr G a w) {z : List AVal} {t : TypeId} {zv : Value} (hz : (M.P.info? t).bind (·.zero) = some zv) (hr : ∀ C, CsR M C z zv.cells 0 ∧ z.length = zv.cells.size) (hne : z ≠ []) (hd : ∀ t, dst = some t → t < N ∧ t ∉ bx)
    (he : evD call mt ⟨j, dst, none, .allocH z⟩ fr G = some (fr', G')) : Goes M bx N C0 w0 L fr' G' a w dst ((execOp a.eval ⟨dst, .alloc t, ty, pos, after, guard⟩).run M.P w) := by
  simp only [evD, evOp, Option.bind_some] at he
  injection he with he; injection he with h1 h2
  subst h1 h2
  obtain ⟨hc1, hc2⟩ := hr C
  obtain ⟨h3, h4⟩ := h.new (esz := zv.cells.size) (cap := 1) (ty := t) (ob_one (b := w.heap.size) hc1 hc2 hne)
  refine ⟨_, _, _, .pointer (some ⟨w.heap.size, 0, none⟩), h3.put hd (evR_of_VR (St.ptr0 h.gr.n)), .inl ?_⟩
  obtain ⟨i0, hi0, hz0⟩ := Option.bind_eq_some_iff.1 hz
  simp [execOp, Instr.alloc, zeroValue, typeInfo, hi0, hz0, newVar, newRow]

/-! ### stores -/
theorem arr_splice {cur : Array Value} {p : Nat} {vs : List Value} (hfit : p + vs.length ≤ cur.size) : (cur.toList.take p ++ vs ++ cur.toList.drop (p + vs.length)).toArray.size = cur.size ∧
    ∀ i, (cur.toList.take p ++ vs ++ cur.toList.drop (p + vs.length)).toArray[i]? = if p ≤ i ∧ i < p + vs.length then vs[i - p]? else cur[i]? := by
  constructor
  · simp; omega
  · intro i
    have hp : p ≤ cur.toList.length := by simp; omega
    simp only [List.getElem?_toArray, List.append_assoc]
    by_cases h1 : i < p
    · rw [if_neg (by omega), List.getElem?_append_left (by simp; omega), List.getElem?_take, if_pos h1]; simp
    · rw [List.getElem?_append_right (by simp; omega)]
      have hl : (cur.toList.take p).length = p := by simp; omega
      rw [hl]
      by_cases h2 : i < p + vs.length
      · rw [if_pos ⟨by omega, h2⟩, List.getElem?_append_left (by omega)]
      · rw [if_neg (by omega), List.getElem?_append_right (by omega), List.getElem?_drop]
        rw [show p + vs.length + (i - p - vs.length) = i by omega]
        simp
theorem CsR.splice {C : Cx} {cs vs : List AVal} {cur V : Array Value} {p c : Nat} (h : CsR M C cs cur p) (hv : CsR M C vs V 0) (hl : vs.length = V.size) (hf : c + vs.length ≤ cs.length) :
    CsR M C (splice cs c vs) (cur.toList.take (p + c) ++ V.toList ++ cur.toList.drop (p + c + V.toList.length)).toArray p := by
  have hlen : V.toList.length = vs.length := by rw [Array.length_toList]; exact hl.symm
  have hfit := h.fit
  obtain ⟨h1, h2⟩ := arr_splice (cur := cur) (p := p + c) (vs := V.toList) (by rw [hlen]; omega)
  refine ⟨by rw [h1, splice_length]; exact hfit, fun i x y hx hy => ?_⟩
  have hi : i < cs.length := by have := (List.getElem?_eq_some_iff.1 hx).1; rwa [splice_length] at this
  rw [splice_at vs cs c i hi] at hx
  rw [h2] at hy
  by_cases hc : c ≤ i ∧ i < c + vs.length
  · rw [if_pos hc] at hx
    rw [if_pos (by rw [hlen]; omega)] at hy
    refine hv.at_ (i - c) x y hx ?_
    rw [show p + i - (p + c) = i - c by omega] at hy
    rw [Nat.zero_add]; simpa using hy
  · rw [if_neg hc] at hx
    rw [if_neg (by rw [hlen]; omega)] at hy
    exact h.at_ i x y hx hy
theorem run_store (P : Program) (w : World) (t : TypeId) (V : Value) {n b o : Nat} {cur : Array Value} {et : TypeId} (hs : (P.info? t).map (·.size) = some n) (hn : V.cells.size = n) (hb : w.heap[b]? = some (.cells cur et (0, 0))) (hfit : o + n ≤ cur.size) (h1 : ∀ v ∈ V.cells, v.oneCell' = true) :
    (Instr.storeAt t (.pointer (some ⟨b, o, none⟩)) V).run P w = .ok () (w.setRow b (cur.toList.take o ++ V.cells.toList ++ cur.toList.drop (o + V.cells.toList.length)).toArray) := by
  have hst := run_storeCells_at P b o et V.cells.toList 0 cur w hb (by simp [hn]; exact hfit) (fun v hv => h1 v (by simpa using hv))
  simp only [Nat.add_zero] at hst
  simp only [Instr.storeAt, Sem.run_bind, Instr.sureAddr, Sem.run_pure, Result.andThen_ok, storeVar, run_sizeOf hs, hn, ne_eq, not_true, if_false]
  exact hst
theorem cells_one {C : Cx} {vs : List AVal} {V : Array Value} (h : CsR M C vs V 0) (hl : vs.length = V.size) : ∀ v ∈ V, v.oneCell' = true := by
  intro v hv
  obtain ⟨i, hi, rfl⟩ := Array.getElem_of_mem hv
  have hi2 : i < vs.length := by rw [hl]; exact hi
  exact (h.at_ i _ _ (List.getElem?_eq_getElem hi2) (by rw [Nat.zero_add]; exact Array.getElem?_eq_getElem hi)).one
theorem e_store (h : St M bx N C0 w0 L C β fr G a w) {n : Nat} {x v : Opd} {t : TypeId} {X V : Operand} (hx : OpR M x X) (hv : OpR M v V) (hs : (M.P.info? t).map (·.size) = some n) (hd : dst = none)
    (he : evD call mt ⟨j, dst, none, .store n x v⟩ fr G = some (fr', G')) : Goes M bx N C0 w0 L fr' G' a w dst ((execOp a.eval ⟨dst, .store t X V, ty, pos, after, guard⟩).run M.P w) := by
  subst hd
  simp only [evD, Option.bind_eq_some_iff] at he
  obtain ⟨vs, hvs, he⟩ := he
  split at he
  · rename_i hn
    obtain ⟨hc1, hc2⟩ := h.gcells hv hvs
    have hX := h.ev hx
    have h1 := cells_one hc1 hc2
    generalize x.ev fr = xv at he hX
    cases xv <;> simp only at he <;> try (cases he; done)
    case pptr d c =>
      split at he
      · rename_i cs hd
        split at he
        · rename_i hle
          injection he with he; injection he with h2 h3
          subst h2 h3
          obtain ⟨_, _, ⟨cur, et, hb, hsz, hcs⟩, _⟩ := h.box d cs hd
          have hsp := hcs.splice hc1 hc2 (c := c) (by omega)
          have hlen : (a.eval V).cells.toList.length = vs.length := by rw [Array.length_toList]; exact hc2.symm
          obtain ⟨h4, _⟩ := arr_splice (cur := cur) (p := c) (vs := (a.eval V).cells.toList) (by rw [hlen]; omega)
          simp only [Nat.zero_add] at hsp
          refine ⟨C, β, _, undef, h.box_set hd (by rw [splice_length, ← hsz]; exact h4) hsp, .inr ⟨?_, rfl⟩⟩
          have hrs := run_store (n := n) (o := c) M.P w t (a.eval V) hs (by rw [← hc2]; exact hn) hb (by omega) h1
          simp only [execOp, Sem.run_bind, hX.1, hrs, Result.andThen_ok, Sem.run_pure]
        · cases he
      · cases he
    case ptr id i c =>
      simp only [Option.bind_eq_some_iff] at he
      obtain ⟨es, hes, e, hei, he⟩ := he
      split at he
      · rename_i hle
        injection he with he; injection he with h2 h3
        subst h2 h3
        obtain ⟨hid, hA⟩ := vr_ptr (show VR M C (.ptr id i c) (a.eval X) from hX)
        obtain ⟨hlt, cur, et, hb, ho⟩ := h.gr.ob id es hes
        obtain ⟨hel, hcs⟩ := ho.el i e hei
        have hsp := hcs.splice hc1 hc2 (c := c) (by omega)
        have hfit := hcs.fit
        have hlen : (a.eval V).cells.toList.length = vs.length := by rw [Array.length_toList]; exact hc2.symm
        obtain ⟨h4, h5⟩ := arr_splice (cur := cur) (p := i * (C.io id).esz + c) (vs := (a.eval V).cells.toList) (by rw [hlen]; omega)
        refine ⟨C, β, _, undef, h.set (cur' := (cur.toList.take (i * (C.io id).esz + c) ++ (a.eval V).cells.toList ++ cur.toList.drop (i * (C.io id).esz + c + (a.eval V).cells.toList.length)).toArray) hes hb ⟨ho.pos, by rw [h4]; exact ho.size, ho.big, by simpa using ho.fit, fun k ek hek => ?_⟩, .inr ⟨?_, rfl⟩⟩
        · rw [List.getElem?_set] at hek
          split at hek
          · rename_i hik
            subst hik
            split at hek
            · injection hek with hek
              subst hek
              exact ⟨by rw [splice_length]; exact hel, hsp⟩
            · cases hek
          · rename_i hik
            obtain ⟨hk1, hk2⟩ := ho.el k ek hek
            refine ⟨hk1, by rw [h4]; exact hk2.fit, fun q x y hx hy => ?_⟩
            rw [h5] at hy
            have hq : q < (C.io id).esz := by rw [← hk1]; exact (List.getElem?_eq_some_iff.1 hx).1
            rw [if_neg] at hy
            · exact hk2.at_ q x y hx hy
            · rw [hlen]
              intro hh
              -- two elements do not overlap
              rcases Nat.lt_or_gt_of_ne hik with hik' | hik'
              · have : (i + 1) * (C.io id).esz ≤ k * (C.io id).esz := Nat.mul_le_mul_right _ hik'
                rw [Nat.add_mul] at this
                omega
              · have : (k + 1) * (C.io id).esz ≤ i * (C.io id).esz := Nat.mul_le_mul_right _ hik'
                rw [Nat.add_mul] at this
                omega
        · have hrs := run_store (n := n) (o := i * (C.io id).esz + c) M.P w t (a.eval V) hs (by rw [← hc2]; exact hn) hb (by omega) h1
          simp only [execOp, Sem.run_bind, hA, hrs, Result.andThen_ok, Sem.run_pure]
      · cases he
  · cases he
end
end Go.Ai
set_option linter.unusedVariables false
set_option linter.unusedSimpArgs false
namespace Go.Ai
variable {M : SM}

section
variable {bx : List Nat} {N : Nat} {C0 : Cx} {w0 : World} {L : Nat → Prop} {C C' : Cx} {β : Nat → Nat} {fr fr' : Fr} {G G' : AG} {a : Act} {w w' : World}
variable {call : CallF} {mt : Nat → Nat → Option Nat} {dst : Option Tmp} {ty : TypeId} {pos : String} {after : Array Edge} {guard : Option (Nat × Bool)} {j : Nat}

theorem CsR.sub {C : Cx} {e : List AVal} {A B : Array Value} {p q : Nat} (h : CsR M C e A p) (hf : q + e.length ≤ B.size) (hab : ∀ c, c < e.length → B[q + c]? = A[p + c]?) : CsR M C e B q :=
  ⟨hf, fun c x y hx hy => h.at_ c x y hx (by rw [← hab c (List.getElem?_eq_some_iff.1 hx).1]; exact hy)⟩
theorem ob_concat {C : Cx} {z cap b : Nat} {es ns : Obj'} {olds news : List Value} {rest : Array Value} (hz : 0 < z) (ho : ElsR M C z es olds) (hn : ElsR M C z ns news) (hle : es.length + ns.length ≤ cap) (hcap : cap ≤ maxLen)
    (hr : rest.size = (cap - (es.length + ns.length)) * z) : ObR M C ⟨b, z, cap⟩ (es ++ ns) (olds.toArray ++ news.toArray ++ rest) := by
  have hsize : (olds.toArray ++ news.toArray ++ rest).size = cap * z := by
    simp only [Array.size_append, List.size_toArray, ho.len, hn.len, hr, ← Nat.add_mul]
    congr 1; omega
  refine ⟨hz, hsize, hcap, by simpa using hle, fun i e he => ?_⟩
  by_cases hi : i < es.length
  · rw [List.getElem?_append_left hi] at he
    obtain ⟨h1, h2⟩ := ho.el i e he
    refine ⟨h1, h2.sub ?_ (fun c hc => ?_)⟩
    · have := h2.fit
      simp only [List.size_toArray] at this
      simp only [Array.size_append, List.size_toArray]; omega
    · have := h2.fit
      simp only [List.size_toArray] at this
      rw [Array.append_assoc, Array.getElem?_append_left (by simp; omega)]
  · rw [List.getElem?_append_right (by omega)] at he
    obtain ⟨h1, h2⟩ := hn.el (i - es.length) e he
    have hiz : i * z = es.length * z + (i - es.length) * z := by rw [← Nat.add_mul]; congr 1; omega
    refine ⟨h1, h2.sub ?_ (fun c hc => ?_)⟩
    · have := h2.fit
      simp only [List.size_toArray] at this
      simp only [Array.size_append, List.size_toArray, ho.len]; omega
    · have := h2.fit
      simp only [List.size_toArray] at this
      rw [Array.append_assoc, Array.getElem?_append_right (by simp [ho.len]; omega), Array.getElem?_append_left (by simp [ho.len]; omega)]
      congr 1
      simp [ho.len]; omega
theorem ob_fill {C : Cx} {o : OI} {es ns : Obj'} {cur : Array Value} {news : List Value} (ho : ObR M C o es cur) (hn : ElsR M C o.esz ns news) (hle : es.length + ns.length ≤ o.cap) :
    ObR M C o (es ++ ns) (cur.toList.take (es.length * o.esz) ++ news ++ cur.toList.drop (es.length * o.esz + news.length)).toArray := by
  have hfit : es.length * o.esz + news.length ≤ cur.size := by
    rw [hn.len, ← Nat.add_mul, ho.size]; exact Nat.mul_le_mul_right _ hle
  obtain ⟨h1, h2⟩ := arr_splice hfit
  refine ⟨ho.pos, by rw [h1]; exact ho.size, ho.big, by simpa using hle, fun i e he => ?_⟩
  by_cases hi : i < es.length
  · rw [List.getElem?_append_left hi] at he
    obtain ⟨h3, h4⟩ := ho.el i e he
    refine ⟨h3, h4.sub (by rw [h1]; exact h4.fit) (fun c hc => ?_)⟩
    rw [h2, if_neg]
    have : (i + 1) * o.esz ≤ es.length * o.esz := Nat.mul_le_mul_right _ hi
    rw [Nat.add_mul] at this
    omega
  · rw [List.getElem?_append_right (by omega)] at he
    obtain ⟨h3, h4⟩ := hn.el (i - es.length) e he
    have hiz : i * o.esz = es.length * o.esz + (i - es.length) * o.esz := by rw [← Nat.add_mul]; congr 1; omega
    have h5 := h4.fit
    simp only [List.size_toArray] at h5
    refine ⟨h3, h4.sub (by rw [h1]; omega) (fun c hc => ?_)⟩
    rw [h2, if_pos (by omega)]
    simp only [List.getElem?_toArray]
    congr 1; omega

/-- What is owned of an object's cells. -/
theorem ob_els {C : Cx} {o : OI} {es : Obj'} {cur : Array Value} {et : TypeId} {f : Nat × Nat} {w : World} (ho : ObR M C o es cur) (hb : w.heap[o.blk]? = some (.cells cur et f)) :
    ∃ olds : List Value, ElsR M C o.esz es olds ∧ ∀ j y, olds[j]? = some y → w.cell? ⟨o.blk, 0 + j, none⟩ = some y :=
  els_of (M := M) (C := C) (p := 0) hb (by rw [Nat.zero_add, ho.size]; exact Nat.mul_le_mul_right _ ho.fit) (fun i e he => by simpa using ho.el i e he)

structure ElT (P : Program) (t e : TypeId) (z bytes : Nat) (zv : Value) : Prop where
  ht : P.underlying t = some (.slice e)
  hi : (P.info? e).map (fun i => (i.size, i.bytes, i.zero)) = some (z, bytes, some zv)
  z0 : 0 < z
  b0 : 0 < bytes
  hzv : zv.cells.size = z
theorem ElT.size {P : Program} {t e : TypeId} {z bytes : Nat} {zv : Value} (h : ElT P t e z bytes zv) : (P.info? e).map (·.size) = some z := by
  obtain ⟨i, hi, hh⟩ := Option.map_eq_some_iff.1 h.hi
  simp only [Prod.mk.injEq] at hh
  rw [hi]; simp [hh.1]

theorem e_app (h : St M bx N C0 w0 L C β fr G a w) {z bytes : Nat} {x y : Opd} {t e : TypeId} {X Y : Operand} {zv : Value} (hx : OpR M x X) (hy : OpR M y Y) (he' : ElT M.P t e z bytes zv) (hd : ∀ t, dst = some t → t < N ∧ t ∉ bx)
    (he : evD call mt ⟨j, dst, none, .app z bytes x y⟩ fr G = some (fr', G')) : Goes M bx N C0 w0 L fr' G' a w dst ((execOp a.eval ⟨dst, .call { callee := .builtin .append, args := #[X, Y], argTypes := #[t, t] }, ty, pos, after, guard⟩).run M.P w) := by
  simp only [evD, evOp, Option.bind_eq_some_iff] at he
  obtain ⟨r, hr, he⟩ := he
  injection he with he; injection he with h1 h2
  subst h1 h2
  have hX := h.ev hx
  have hY := h.ev hy
  have key : ∀ (U W R : Value) (w' : World), a.eval X = U → a.eval Y = W → (∀ ty, (Builtin.append_ #[t, t] ty #[U, W]).run M.P w = .ok R w') → (execOp a.eval ⟨dst, .call { callee := .builtin .append, args := #[X, Y], argTypes := #[t, t] }, ty, pos, after, guard⟩).run M.P w = .ok (.value R) w' := by
    intro U W R w' hU hW hr
    simp only [execOp, resolve, Sem.run_bind, Sem.run_pure, Result.andThen_ok, invoke, builtin, List.map_toArray, List.map_cons, List.map_nil, hU, hW, hr]
  unfold appV at hr
  simp only [Option.bind_eq_some_iff] at hr
  obtain ⟨ns, hns, hr⟩ := hr
  split at hr
  · rename_i hw
    have hyv : VR M C (y.ev fr) (a.eval Y) := VR_of_EvR hY (by intros; intro e; rw [e] at hns; cases hns) (by intros; intro e; rw [e] at hns; cases hns) (by intro e; rw [e] at hns; cases hns)
    obtain ⟨A, c, news, hA, hAc, hnr, hfirstN⟩ := h.src hyv he'.z0 hns hw
    have hfirst : ∀ k, (Builtin.firstCells z ns.length (.slice A ns.length c)).run M.P { w with drawn := k } = .ok news.toArray { w with drawn := k } := fun k => by
      have := hfirstN ns.length (Nat.le_refl _) k
      rwa [← hnr.len, List.take_length] at this
    have hmz : news.length = ns.length * z := hnr.len
    generalize x.ev fr = xv at hr hX
    cases xv <;> (try simp only at hr) <;> try (cases hr; done)
    case nils =>
      obtain ⟨B, hB⟩ := vr_nils (show VR M C .nils (a.eval X) from hX)
      split at hr
      · rename_i h0
        injection hr with hr
        subst hr h0
        exact ⟨C, β, w, .slice B 0 0, h.put hd (VR.nils B), .inl (key _ _ _ _ hB hA (fun ty => app_none t ty e z he'.ht he'.size B A 0 0 c (Nat.le_refl _)))⟩
      · rename_i h0
        split at hr
        · rename_i hb
          injection hr with hr
          subst hr
          have hm0 : 0 < ns.length := List.length_pos_iff.2 h0
          have hbm : ns.length * 1 ≤ ns.length * bytes := Nat.mul_le_mul_left _ he'.b0
          obtain ⟨cap, hc1, hc2, hrun⟩ : ∃ cap, 0 + ns.length ≤ cap ∧ cap ≤ maxLen ∧ ∀ ty, (Builtin.append_ #[t, t] ty #[.slice B 0 0, .slice A ns.length c]).run M.P w = .ok (.slice (some ⟨w.heap.size, 0, none⟩) (0 + ns.length) cap)
              ({ w with drawn := w.drawn + 1 }.alloc (.cells (([] : List Value).toArray ++ news.toArray ++ Builtin.zeroCells zv.cells (cap - (0 + ns.length))) e)) := by
            refine ⟨grownCap w (0 + ns.length) 0 e, grownCap_ge w _ 0 e, grownCap_le_maxLen w _ 0 e (by simp only [maxA, maxLen] at *; omega), fun ty => ?_⟩
            exact app_grow_run (P := M.P) (w := w) t ty e z bytes zv he'.ht he'.hi B A 0 0 ns.length c [] news (by simp) hmz run_first0 hfirst (by omega) (by rw [Nat.zero_add]; simp only [maxA] at hb; omega) (by simp only [maxA, maxLen] at *; omega)
          have hob := ob_concat (M := M) (C := C) (z := z) (cap := cap) (b := w.heap.size) (es := []) (rest := Builtin.zeroCells zv.cells (cap - (0 + ns.length))) he'.z0 (olds := []) ⟨by simp, by simp⟩ hnr (by simpa using hc1) hc2 (by rw [size_zeroCells, he'.hzv]; simp)
          obtain ⟨h3, h4⟩ := (h.drew).new (esz := z) (cap := cap) (ty := e) (es := ns) hob
          refine ⟨_, _, _, _, h3.put hd (v := .slice G.next 0 ns.length) (V := .slice (some ⟨w.heap.size, 0, none⟩) (0 + ns.length) cap) ?_, .inl (key _ _ _ _ hB hA hrun)⟩
          rw [Nat.zero_add]
          refine VR.slice G.next 0 ns.length cap _ (Nat.lt_succ_self _) (by omega) (.inl ⟨?_, ?_⟩)
          · simp [newCx]
          · simp [newCx]
        · cases hr
    case slice id off len =>
      cases off with
      | succ off => simp at hr
      | zero =>
        simp only [Option.bind_eq_some_iff] at hr
        obtain ⟨es, hes, hr⟩ := hr
        split at hr
        · rename_i hcond
          obtain ⟨hlen, hne, hwz, hb⟩ := hcond
          injection hr with hr
          subst hr
          obtain ⟨hlt, cur, et, hblk, ho⟩ := h.gr.ob id es hes
          have hzz : (C.io id).esz = z := by
            obtain ⟨e0, he0⟩ := List.exists_mem_of_ne_nil es hne
            obtain ⟨i0, hi0, rfl⟩ := List.getElem_of_mem he0
            rw [← (ho.el i0 _ (List.getElem?_eq_getElem hi0)).1, hwz _ he0]
          obtain ⟨cap, A0, hB, hid, hlc, ha⟩ := vr_slice (show VR M C (.slice id 0 len) (a.eval X) from hX)
          have hpos : 0 < es.length := List.length_pos_iff.2 hne
          rcases ha with ⟨rfl, hcap⟩ | hcap
          · simp only [Nat.zero_mul] at hB
            have hb1 : (len + ns.length) * 1 ≤ (len + ns.length) * bytes := Nat.mul_le_mul_left _ he'.b0
            by_cases hroom : len + ns.length ≤ cap
            · have hfit : len * z + news.length ≤ cur.size := by rw [hmz, ← Nat.add_mul, ho.size, hzz]; exact Nat.mul_le_mul_right _ (by omega)
              have hrun := fun ty => app_fit (P := M.P) (w := w) t ty e z he'.ht he'.size (C.io id).blk len cap cur et hblk A ns.length c news hmz (hfirst w.drawn) hnr.one hroom hfit
              have hfill := ob_fill (o := C.io id) ho (by rw [hzz]; exact hnr) (by rw [hlen]; omega)
              rw [hlen, hzz] at hfill
              have hle : C.le (newCx C G.next (C.io id)) := newC_le h.gr.n
              have hG1 : ∀ i e, updO G.obj id none i = some e → G.obj i = some e := by
                intro i e hi
                simp only [updO] at hi
                split at hi
                · cases hi
                · exact hi
              have hst := h.step (C' := newCx C G.next (C.io id)) (G' := ⟨G.next + 1, updO (updO G.obj id none) G.next (some (es ++ ns))⟩) (w' := w.setRow (C.io id).blk (cur.toList.take (len * z) ++ news ++ cur.toList.drop (len * z + news.length)).toArray) hle
                (h.gr.add hG1 (fun i e hi e' => by
                    have hne' : i ≠ id := by rintro rfl; simp [updO] at hi
                    exact h.gr.inj i id e es (hG1 i e hi) hes hne' e') (fun arr hi => by
                    have := (h.gr.im _ arr hi).2 id es hes
                    exact this rfl) (fun b hb hbn => setRow_other w _ b _ hbn) ⟨_, et, setRow_heap w _ cur _ et _ hblk, hfill.mono hle⟩)
                (Un.setRow w _ _ _ ⟨id, es, hes, rfl⟩) (fun b hb => by
                  rcases live_add h.gr hG1 hb with h1 | h1
                  · exact .inl h1
                  · left; rw [h1]; exact ⟨id, es, hes, rfl⟩) (fun b arr hb => .inl hb)
              refine ⟨_, _, _, _, hst.put hd (v := .slice G.next 0 (len + ns.length)) (V := .slice (some ⟨(C.io id).blk, 0, none⟩) (len + ns.length) cap) ?_, .inl (key _ _ _ _ hB hA hrun)⟩
              refine VR.slice G.next 0 (len + ns.length) cap _ (Nat.lt_succ_self _) hroom (.inl ⟨?_, ?_⟩)
              · simp [newCx]
              · simp [newCx]; omega
            · obtain ⟨olds, hol, hocell⟩ := ob_els ho hblk
              rw [hzz] at hol
              have hfo : ∀ k, (Builtin.firstCells z len (.slice (some ⟨(C.io id).blk, 0, none⟩) len cap)).run M.P { w with drawn := k } = .ok olds.toArray { w with drawn := k } := run_first (by rw [hol.len, hlen]) hocell
              have hcl := grownCap_le_maxLen w (len + ns.length) cap e (by simp only [maxA, maxLen] at *; omega)
              have hcg := grownCap_ge w (len + ns.length) cap e
              have hrun := fun ty => app_grow_run (P := M.P) (w := w) t ty e z bytes zv he'.ht he'.hi (some ⟨(C.io id).blk, 0, none⟩) A len cap ns.length c olds news (by rw [hol.len, hlen]) hmz hfo hfirst (by omega) (by simp only [maxA] at hb; omega) (by simp only [maxA, maxLen] at *; omega)
              have hob := ob_concat (M := M) (C := C) (z := z) (cap := grownCap w (len + ns.length) cap e) (b := w.heap.size) (rest := Builtin.zeroCells zv.cells (grownCap w (len + ns.length) cap e - (len + ns.length))) he'.z0 hol hnr (by rw [hlen]; exact hcg) hcl (by rw [size_zeroCells, he'.hzv, hlen])
              have hdel := (h.drew).del id
              obtain ⟨h3, h4⟩ := hdel.new (esz := z) (cap := grownCap w (len + ns.length) cap e) (ty := e) (es := es ++ ns) hob
              refine ⟨_, _, _, _, h3.put hd (v := .slice G.next 0 (len + ns.length)) (V := .slice (some ⟨w.heap.size, 0, none⟩) (len + ns.length) (grownCap w (len + ns.length) cap e)) ?_, .inl (key _ _ _ _ hB hA hrun)⟩
              refine VR.slice G.next 0 (len + ns.length) _ _ (Nat.lt_succ_self _) hcg (.inl ⟨?_, ?_⟩)
              · simp [newCx]
              · simp [newCx]
          · omega
        · cases hr
  · cases hr
end
end Go.Ai
set_option linter.unusedVariables false
set_option linter.unusedSimpArgs false
namespace Go.Ai
variable {M : SM}

section
variable {bx : List Nat} {N : Nat} {C0 : Cx} {w0 : World} {L : Nat → Prop} {C C' : Cx} {β : Nat → Nat} {fr fr' : Fr} {G G' : AG} {a : Act} {w w' : World}
variable {call : CallF} {mt : Nat → Nat → Option Nat} {dst : Option Tmp} {ty : TypeId} {pos : String} {after : Array Edge} {guard : Option (Nat × Bool)} {j : Nat}

theorem fill_lits {C : Cx} {z tot : Nat} (hz : 0 < z) : ∀ (qs : List (Nat × Value)) (es : Obj') (k : Nat) (cells : Array Value), cells.size = tot → (k + qs.length) * z ≤ tot → es.length = qs.length →
    (∀ (i : Nat) q e, qs[i]? = some q → es[i]? = some e → q.1 = k + i ∧ CsR M C e q.2.cells 0 ∧ e.length = q.2.cells.size ∧ e.length = z) →
    ∃ arr, Instr.fill (fun i => some (i * z, z)) cells qs = some arr ∧ arr.size = tot ∧ (∀ p, p < k * z → arr[p]? = cells[p]?) ∧ ∀ (i : Nat) e, es[i]? = some e → CsR M C e arr ((k + i) * z) := by
  intro qs
  induction qs with
  | nil =>
    intro es k cells hs _ hl _
    have : es = [] := List.eq_nil_of_length_eq_zero hl
    subst this
    exact ⟨cells, rfl, hs, fun _ _ => rfl, by simp⟩
  | cons q qs ih =>
    intro es k cells hs hfit hl hq
    cases es with
    | nil => simp at hl
    | cons e es =>
      obtain ⟨qi, qv⟩ := q
      obtain ⟨h1, h2, h3, h4⟩ := hq 0 (qi, qv) e rfl rfl
      simp only [Nat.add_zero] at h1
      have h3 : e.length = qv.cells.size := h3
      have h2 : CsR M C e qv.cells 0 := h2
      subst h1
      have hkz : (qi + 1) * z ≤ tot := Nat.le_trans (Nat.mul_le_mul_right _ (by simp)) hfit
      rw [Nat.add_mul, Nat.one_mul] at hkz
      obtain ⟨f1, f2⟩ := foldl_set (qi * z) qv.cells.toList 0 cells
      have heq : qv.cells.zipIdx.foldl (fun cs (c, j) => cs.setIfInBounds (qi * z + j) c) cells = (qv.cells.toList.zipIdx 0).foldl (fun cs x => cs.setIfInBounds (qi * z + x.2) x.1) cells := by
        rw [← Array.foldl_toList, Array.toList_zipIdx]
      generalize (qv.cells.toList.zipIdx 0).foldl (fun cs x => cs.setIfInBounds (qi * z + x.2) x.1) cells = cells1 at f1 f2 heq
      obtain ⟨arr, g1, g2, g3, g4⟩ := ih es (qi + 1) cells1 (by rw [← hs]; exact f1) (by rw [show qi + 1 + qs.length = qi + (qs.length + 1) by omega]; simpa using hfit) (by simpa using hl) (fun i q e' hi he => by
        have := hq (i + 1) q e' (by simpa using hi) (by simpa using he)
        rw [show qi + 1 + i = qi + (i + 1) by omega]; exact this)
      refine ⟨arr, ?_, g2, fun p hp => ?_, fun i e' he => ?_⟩
      · simp only [Instr.fill]
        rw [if_neg]
        · rw [heq]; exact g1
        · simp only [ne_eq, Bool.or_eq_true, decide_eq_true_eq, not_or, Decidable.not_not]
          exact ⟨by omega, by omega⟩
      · rw [g3 p (by rw [Nat.add_mul]; omega), f2 p, if_neg (by omega)]
      · cases i with
        | zero =>
          simp at he
          subst he
          simp only [Nat.add_zero]
          refine ⟨by rw [g2]; omega, fun c x y hx hy => ?_⟩
          have hc : c < z := by rw [← h4]; exact (List.getElem?_eq_some_iff.1 hx).1
          rw [g3 _ (by rw [Nat.add_mul]; omega), f2, if_pos (by simp; omega)] at hy
          refine h2.at_ c x y hx ?_
          rw [Nat.zero_add]
          simpa using hy
        | succ i =>
          have := g4 i e' (by simpa using he)
          rw [show qi + (i + 1) = qi + 1 + i by omega]; exact this
theorem gcellss_get : ∀ (xs : List Opd) (es : Obj'), gcellss fr xs = some es → es.length = xs.length ∧ ∀ (i : Nat) x, xs[i]? = some x → ∃ e, es[i]? = some e ∧ gcells fr x = some e := by
  intro xs
  induction xs with
  | nil => intro vs h; injection h with h; subst h; exact ⟨rfl, by simp⟩
  | cons x xs ih =>
    intro vs h
    simp only [gcellss, Option.bind_eq_some_iff] at h
    obtain ⟨v, hv, vs', hvs, h⟩ := h
    injection h with h
    subst h
    obtain ⟨h1, h2⟩ := ih vs' hvs
    refine ⟨by simp [h1], fun i y hy => ?_⟩
    cases i with
    | zero => simp at hy; subst hy; exact ⟨v, rfl, hv⟩
    | succ i => exact h2 i y hy
structure LitT (M : SM) (t e : TypeId) (z len : Nat) (ps : List Opd) (parts : Array (Nat × Operand)) (zv : Value) : Prop where
  ht : M.P.underlying t = some (.slice e)
  hs : (M.P.info? e).map (·.size) = some z
  hzero : (M.P.info? e).bind (·.zero) = some zv
  z0 : 0 < z
  big : len * z ≤ 16777216
  l1 : ps.length = len
  l2 : parts.size = len
  hp : ∀ (k : Nat) p q, ps[k]? = some p → parts[k]? = some q → q.1 = k ∧ OpR M p q.2
theorem lit_run (h : St M bx N C0 w0 L C β fr G a w) {t e : TypeId} {z len : Nat} {ps : List Opd} {parts : Array (Nat × Operand)} {zv : Value} (hl : LitT M t e z len ps parts zv) {es : Obj'} (hes : gcellss fr ps = some es) (hw : ∀ x ∈ es, x.length = z) :
    ∃ arr, (execOp a.eval ⟨dst, .buildSlice t len parts, ty, pos, after, guard⟩).run M.P w = .ok (.value (.slice (some ⟨w.heap.size, 0, none⟩) len len)) (w.alloc (.cells arr e)) ∧ arr.size = len * z ∧ ∀ (i : Nat) x, es[i]? = some x → CsR M C x arr (i * z) := by
  obtain ⟨g1, g2⟩ := gcellss_get ps es hes
  have hlen : es.length = len := by rw [g1, hl.l1]
  let zero : Array Value := if len * z = 0 then #[] else zv.cells
  let cells0 : Array Value := (Array.range (len * z)).map fun i => zero[i % zero.size]!
  obtain ⟨arr, f1, f2, _, f4⟩ := fill_lits (M := M) (C := C) (tot := len * z) hl.z0 (parts.toList.map fun (i, x) => (i, a.eval x)) es 0 cells0 (by simp [cells0]) (by simp [hl.l2]) (by simp [hlen, hl.l2]) (fun i q e' hq he => by
    simp only [List.getElem?_map, Option.map_eq_some_iff] at hq
    obtain ⟨⟨qi, qx⟩, hq1, rfl⟩ := hq
    have hi : i < ps.length := by rw [← g1]; exact (List.getElem?_eq_some_iff.1 he).1
    obtain ⟨e2, he2, hc⟩ := g2 i _ (List.getElem?_eq_getElem hi)
    rw [he] at he2; injection he2 with he2; subst he2
    obtain ⟨hk, hr⟩ := hl.hp i _ (qi, qx) (List.getElem?_eq_getElem hi) (by simpa using hq1)
    obtain ⟨c1, c2⟩ := h.gcells hr hc
    exact ⟨by simpa using hk, c1, c2, hw _ (List.mem_of_getElem? he)⟩)
  refine ⟨arr, ?_, f2, fun i x hx => by simpa using f4 i x hx⟩
  obtain ⟨i0, hi0, hs⟩ := Option.map_eq_some_iff.1 hl.hs
  have hz0 : i0.zero = some zv := by have := hl.hzero; rw [hi0] at this; simpa using this
  have hbig : ¬ (2 ^ 24 < len * z) := by have := hl.big; omega
  by_cases h0 : len * z = 0
  · have f1' : Instr.fill (fun i => some (i * z, z)) ((Array.range (len * z)).map fun i => (#[] : Array Value)[i % (#[] : Array Value).size]!) (parts.toList.map fun (i, x) => (i, a.eval x)) = some arr := by
      have : cells0 = (Array.range (len * z)).map fun i => (#[] : Array Value)[i % (#[] : Array Value).size]! := by simp only [cells0, zero, if_pos h0]
      rw [← this]; exact f1
    simp only [execOp, Instr.buildSlice, Sem.run_bind, run_underlying hl.ht, Result.andThen_ok, sizeOf, typeInfo, run_program, hi0, Sem.run_pure, hs, gt_iff_lt, Sem.run_ite, if_neg hbig, if_pos h0, Array.toList_map, f1', newRow, run_newObj]
    rfl
  · have f1' : Instr.fill (fun i => some (i * z, z)) ((Array.range (len * z)).map fun i => zv.cells[i % zv.cells.size]!) (parts.toList.map fun (i, x) => (i, a.eval x)) = some arr := by
      have : cells0 = (Array.range (len * z)).map fun i => zv.cells[i % zv.cells.size]! := by simp only [cells0, zero, if_neg h0]
      rw [← this]; exact f1
    simp only [execOp, Instr.buildSlice, Sem.run_bind, run_underlying hl.ht, Result.andThen_ok, sizeOf, typeInfo, run_program, hi0, Sem.run_pure, hs, gt_iff_lt, Sem.run_ite, if_neg hbig, if_neg h0, zeroValue, hz0, Array.toList_map, f1', newRow, run_newObj]
    rfl
theorem e_litI (h : St M bx N C0 w0 L C β fr G a w) {t e : TypeId} {z len : Nat} {ps : List Opd} {parts : Array (Nat × Operand)} {zv : Value} (hl : LitT M t e z len ps parts zv) (hd : ∀ t, dst = some t → t < N ∧ t ∉ bx)
    (he : evD call mt ⟨j, dst, none, .litI z ps⟩ fr G = some (fr', G')) : Goes M bx N C0 w0 L fr' G' a w dst ((execOp a.eval ⟨dst, .buildSlice t len parts, ty, pos, after, guard⟩).run M.P w) := by
  simp only [evD, evOp, Option.bind_eq_some_iff] at he
  obtain ⟨r, ⟨es, hes, hr⟩, he⟩ := he
  split at hr
  · rename_i hw
    injection hr with hr
    subst hr
    injection he with he; injection he with h1 h2
    subst h1 h2
    obtain ⟨arr, hrun, hsize, hel⟩ := lit_run h hl hes hw
    have hlen : es.length = len := by rw [(gcellss_get ps es hes).1, hl.l1]
    obtain ⟨h3, h4⟩ := h.imm (arr := arr) (ty := e)
    have hli : LiR M (immC C w.heap.size arr) es z w.heap.size 0 := by
      have hat : ∀ p, (immC C w.heap.size arr).at w.heap.size p = arr[p]? := fun p => by simp [Cx.at, immC]
      refine ⟨hl.z0, hw, fun i e c hi hc => ?_, fun i e c x y hi hx hy => ?_⟩
      · have hcs := hel i e hi
        have hcl : c < e.length := by rw [hw e (List.mem_of_getElem? hi)]; exact hc
        obtain ⟨y, hy, hcr⟩ := hcs.get (List.getElem?_eq_getElem hcl)
        exact ⟨y, by rw [hat, Nat.zero_add]; exact hy, hcr.one⟩
      · rw [hat, Nat.zero_add] at hy
        exact ((hel i e hi).at_ c x y hx hy).v.mono h4
    refine ⟨_, _, _, _, h3.put hd (v := .list es) (V := .slice (some ⟨w.heap.size, 0, none⟩) len len) ?_, .inl hrun⟩
    have := hli.list (cap := len) (A := some ⟨w.heap.size, 0, none⟩) (by omega) (fun _ => rfl)
    rw [hlen] at this
    exact this
  · cases hr
theorem e_litO (h : St M bx N C0 w0 L C β fr G a w) {t e : TypeId} {z len : Nat} {ps : List Opd} {parts : Array (Nat × Operand)} {zv : Value} (hl : LitT M t e z len ps parts zv) (hd : ∀ t, dst = some t → t < N ∧ t ∉ bx)
    (he : evD call mt ⟨j, dst, none, .litO z ps⟩ fr G = some (fr', G')) : Goes M bx N C0 w0 L fr' G' a w dst ((execOp a.eval ⟨dst, .buildSlice t len parts, ty, pos, after, guard⟩).run M.P w) := by
  simp only [evD, evOp, Option.bind_eq_some_iff] at he
  obtain ⟨r, ⟨es, hes, hr⟩, he⟩ := he
  injection he with he; injection he with h1 h2
  subst h1 h2
  have hlen : es.length = len := by rw [(gcellss_get ps es hes).1, hl.l1]
  split at hr
  · rename_i h0
    injection hr with hr
    subst hr h0
    obtain ⟨arr, hrun, hsize, hel⟩ := lit_run h hl hes (by simp)
    obtain ⟨h3, h4⟩ := h.imm (arr := arr) (ty := e)
    have hlen0 : len = 0 := by simpa using hlen.symm
    subst hlen0
    exact ⟨_, _, _, _, h3.put hd (v := .nils) (V := .slice (some ⟨w.heap.size, 0, none⟩) 0 0) (VR.nils _), .inl hrun⟩
  · rename_i h0
    split at hr
    · rename_i hw
      injection hr with hr
      subst hr
      obtain ⟨arr, hrun, hsize, hel⟩ := lit_run h hl hes hw
      have hmax : len ≤ maxLen := by
        have h1 := hl.big; have h2 := hl.z0
        have : len * 1 ≤ len * z := Nat.mul_le_mul_left _ h2
        simp only [maxLen]; omega
      obtain ⟨h3, h4⟩ := h.new (esz := z) (cap := len) (ty := e) (es := es) (cur := arr) ⟨hl.z0, hsize, hmax, by show es.length ≤ len; omega, fun i x hx => ⟨hw x (List.mem_of_getElem? hx), hel i x hx⟩⟩
      refine ⟨_, _, _, _, h3.put hd (v := .slice G.next 0 es.length) (V := .slice (some ⟨w.heap.size, 0, none⟩) len len) ?_, .inl hrun⟩
      rw [hlen]
      refine VR.slice G.next 0 len len _ (Nat.lt_succ_self _) (Nat.le_refl _) (.inl ⟨?_, ?_⟩)
      · simp [newCx]
      · simp [newCx]
    · cases hr
theorem e_mks (h : St M bx N C0 w0 L C β fr G a w) {t e : TypeId} {z : List AVal} {bytes : Nat} {n : Opd} {X Y : Operand} {zv : Value} (hx : OpR M n X) (hy : OpR M n Y) (he' : ElT M.P t e z.length bytes zv) (hr : ∀ C, CsR M C z zv.cells 0) (hd : ∀ t, dst = some t → t < N ∧ t ∉ bx)
    (he : evD call mt ⟨j, dst, none, .mks z bytes n⟩ fr G = some (fr', G')) : Goes M bx N C0 w0 L fr' G' a w dst ((execOp a.eval ⟨dst, .makeSlice t X Y, ty, pos, after, guard⟩).run M.P w) := by
  simp only [evD, evOp, Option.bind_eq_some_iff] at he
  obtain ⟨r, hr', he⟩ := he
  injection he with he; injection he with h1 h2
  subst h1 h2
  have hX := h.ev hx; have hY := h.ev hy
  obtain ⟨i0, hi0, hh⟩ := Option.map_eq_some_iff.1 he'.hi
  simp only [Prod.mk.injEq] at hh
  obtain ⟨hsz, hby, hzv⟩ := hh
  generalize n.ev fr = nv at hr' hX hY
  cases nv <;> (try simp only at hr') <;> try (cases hr'; done)
  rename_i k m
  cases k <;> (try simp only at hr') <;> try (cases hr'; done)
  have e1 := vr_int (show VR M C (.int .i64 m) (a.eval X) from hX)
  have e2 := vr_int (show VR M C (.int .i64 m) (a.eval Y) from hY)
  have key : 0 ≤ m → m * bytes ≤ maxA → (execOp a.eval ⟨dst, .makeSlice t X Y, ty, pos, after, guard⟩).run M.P w = .ok (.value (.slice (some ⟨w.heap.size, 0, none⟩) m.toNat m.toNat)) (w.alloc (.cells (madeCells zv.cells (m.toNat * z.length)) e)) := by
    intro h0 hb
    have hb1 : m * 1 ≤ m * bytes := Int.mul_le_mul_of_nonneg_left (by have := he'.b0; omega) h0
    have hmx : (maxA : Int) = 1099511627776 := rfl
    have hrun := run_make (P := M.P) w t e i0 zv he'.ht hi0 hzv .i64 .i64 m m h0 (Int.le_refl _) (by rw [hby, Int.mul_comm]; omega) (by omega)
    simp only [execOp, e1, e2, Sem.run_bind, hrun, Result.andThen_ok, Sem.run_pure, hsz]
  split at hr'
  · rename_i h0
    injection hr' with hr'
    subst hr' h0
    have hrun := key (Int.le_refl _) (by simp [maxA])
    obtain ⟨h3, h4⟩ := h.imm (arr := madeCells zv.cells ((0 : Int).toNat * z.length)) (ty := e)
    exact ⟨_, _, _, _, h3.put hd (v := .nils) (V := .slice (some ⟨w.heap.size, 0, none⟩) 0 0) (VR.nils _), .inl hrun⟩
  · rename_i h0
    split at hr'
    · rename_i hc
      injection hr' with hr'
      subst hr'
      have hrun := key hc.1 hc.2
      have hmz : ((m.toNat : Nat) : Int) = m := Int.toNat_of_nonneg hc.1
      have hb1 : m * 1 ≤ m * bytes := Int.mul_le_mul_of_nonneg_left (by have := he'.b0; omega) hc.1
      have hmx : (maxA : Int) = 1099511627776 := rfl
      have hmax : m.toNat ≤ maxLen := by simp only [maxLen]; omega
      have hel : ∀ i, i < m.toNat → CsR M C z (madeCells zv.cells (m.toNat * z.length)) (i * z.length) := by
        intro i hi
        have hfit : i * z.length + z.length ≤ m.toNat * z.length := by
          have : (i + 1) * z.length ≤ m.toNat * z.length := Nat.mul_le_mul_right _ hi
          rw [Nat.add_mul] at this; omega
        refine (hr C).sub (by rw [size_madeCells]; exact hfit) (fun c hc => ?_)
        have hlt : i * z.length + c < m.toNat * z.length := by omega
        have hzc : c < zv.cells.size := by rw [he'.hzv]; exact hc
        simp only [madeCells, Array.getElem?_map, Nat.zero_add, he'.hzv]
        rw [Array.getElem?_range, if_pos hlt]
        simp only [Option.map_some]
        have hmod : (i * z.length + c) % z.length = c := by rw [Nat.add_comm, Nat.add_mul_mod_self_right]; exact Nat.mod_eq_of_lt hc
        rw [hmod, Array.getElem?_eq_getElem hzc, getElem!_pos zv.cells c hzc]
      obtain ⟨h3, h4⟩ := h.new (esz := z.length) (cap := m.toNat) (ty := e) (es := List.replicate m.toNat z) (cur := madeCells zv.cells (m.toNat * z.length)) ⟨he'.z0, by rw [size_madeCells], hmax, by simp, fun i x hx => by
        obtain ⟨hi, hx⟩ := List.getElem?_eq_some_iff.1 hx
        simp at hi hx
        subst hx
        exact ⟨rfl, hel i (by omega)⟩⟩
      refine ⟨_, _, _, _, h3.put hd (v := .slice G.next 0 m.toNat) (V := .slice (some ⟨w.heap.size, 0, none⟩) m.toNat m.toNat) ?_, .inl hrun⟩
      refine VR.slice G.next 0 m.toNat m.toNat _ (Nat.lt_succ_self _) (Nat.le_refl _) (.inl ⟨?_, ?_⟩)
      · simp [newCx]
      · simp [newCx]
    · cases hr'

theorem ob_over {C : Cx} {o : OI} {es ns : Obj'} {cur : Array Value} {news : List Value} (ho : ObR M C o es cur) (hn : ElsR M C o.esz ns news) (hle : ns.length ≤ es.length) :
    ObR M C o (ns ++ es.drop ns.length) (news ++ cur.toList.drop news.length).toArray := by
  have hfit : 0 + news.length ≤ cur.size := by
    rw [hn.len, ho.size, Nat.zero_add]; exact Nat.mul_le_mul_right _ (Nat.le_trans hle ho.fit)
  obtain ⟨h1, h2⟩ := arr_splice hfit
  simp only [List.take_zero, List.nil_append, Nat.zero_add] at h1 h2
  refine ⟨ho.pos, by rw [h1]; exact ho.size, ho.big, by have := ho.fit; simp; omega, fun i e he => ?_⟩
  by_cases hi : i < ns.length
  · rw [List.getElem?_append_left hi] at he
    obtain ⟨h3, h4⟩ := hn.el i e he
    have h5 := h4.fit
    simp only [List.size_toArray] at h5
    refine ⟨h3, h4.sub (by rw [h1]; omega) (fun c hc => ?_)⟩
    rw [h2, if_pos (by omega)]
    simp
  · rw [List.getElem?_append_right (by omega), List.getElem?_drop, show ns.length + (i - ns.length) = i by omega] at he
    obtain ⟨h3, h4⟩ := ho.el i e he
    refine ⟨h3, h4.sub (by rw [h1]; exact h4.fit) (fun c hc => ?_)⟩
    rw [h2, if_neg]
    have : ns.length * o.esz ≤ i * o.esz := Nat.mul_le_mul_right _ (by omega)
    rw [hn.len]; omega
theorem take_els {C : Cx} {z : Nat} {es : Obj'} {L : List Value} (h : ElsR M C z es L) (n : Nat) (hn : n ≤ es.length) : ElsR M C z (es.take n) (L.take (n * z)) := by
  have hl : n * z ≤ L.length := by rw [h.len]; exact Nat.mul_le_mul_right _ hn
  refine ⟨by simp; rw [Nat.min_eq_left hl, Nat.min_eq_left hn], fun i e he => ?_⟩
  rw [List.getElem?_take] at he
  split at he
  · rename_i hi
    obtain ⟨h1, h2⟩ := h.el i e he
    have h3 : i * z + z ≤ n * z := by
      have : (i + 1) * z ≤ n * z := Nat.mul_le_mul_right _ hi
      rw [Nat.add_mul] at this; omega
    refine ⟨h1, h2.sub (by simp; omega) (fun c hc => ?_)⟩
    simp only [List.getElem?_toArray]
    rw [List.getElem?_take, if_pos (by omega)]
  · cases he
theorem run_copy {P : Program} {t t' e : TypeId} {z len cap n c : Nat} {A0 : Addr} {A : Option Addr} {cells : Array Value} {w w1 w2 : World} {ty : TypeId} (ht : P.underlying t = some (.slice e)) (hz : (P.info? e).map (·.size) = some z)
    (hf : (Builtin.firstCells z (min n len) (.slice A n c)).run P w = .ok cells w1) (hst : (storeCells A0 cells.toList).run P w1 = .ok () w2) :
    (Builtin.copy_ #[t, t'] ty #[.slice (some A0) len cap, .slice A n c]).run P w = .ok (.int .i64 ((min n len : Nat) : Int)) w2 := by
  have hf2 : (Builtin.firstCells z (Nat.min n len) (.slice A n c)).run P w = .ok cells w1 := hf
  have hu := run_underlying (w := w) ht
  have hs := run_sizeOf (w := w) hz
  unfold Builtin.copy_
  dsimp only [List.getElem?_toArray, List.getElem?_cons_zero, List.getElem?_cons_succ]
  simp [hu, hs, Builtin.lenOf, hf2, hst, goInt]
theorem e_cpy (h : St M bx N C0 w0 L C β fr G a w) {z : Nat} {x y : Opd} {t t' e : TypeId} {X Y : Operand} (hx : OpR M x X) (hy : OpR M y Y) (ht : M.P.underlying t = some (.slice e)) (hz : (M.P.info? e).map (·.size) = some z) (hz0 : 0 < z) (hd : ∀ t, dst = some t → t < N ∧ t ∉ bx)
    (he : evD call mt ⟨j, dst, none, .cpy z x y⟩ fr G = some (fr', G')) : Goes M bx N C0 w0 L fr' G' a w dst ((execOp a.eval ⟨dst, .call { callee := .builtin .copy, args := #[X, Y], argTypes := #[t, t'] }, ty, pos, after, guard⟩).run M.P w) := by
  simp only [evD, evOp, Option.bind_eq_some_iff] at he
  obtain ⟨r, ⟨ns, hns, hr⟩, he⟩ := he
  injection he with he; injection he with h1 h2
  subst h1 h2
  have hX := h.ev hx
  have hY := h.ev hy
  have key : ∀ (U W R : Value) (w' : World), a.eval X = U → a.eval Y = W → (∀ ty, (Builtin.copy_ #[t, t'] ty #[U, W]).run M.P w = .ok R w') → (execOp a.eval ⟨dst, .call { callee := .builtin .copy, args := #[X, Y], argTypes := #[t, t'] }, ty, pos, after, guard⟩).run M.P w = .ok (.value R) w' := by
    intro U W R w' hU hW hr
    simp only [execOp, resolve, Sem.run_bind, Sem.run_pure, Result.andThen_ok, invoke, builtin, List.map_toArray, List.map_cons, List.map_nil, hU, hW, hr]
  split at hr
  · rename_i hw
    have hyv : VR M C (y.ev fr) (a.eval Y) := VR_of_EvR hY (by intros; intro e; rw [e] at hns; cases hns) (by intros; intro e; rw [e] at hns; cases hns) (by intro e; rw [e] at hns; cases hns)
    obtain ⟨A, c, news, hA, hAc, hnr, hfirst⟩ := h.src hyv hz0 hns hw
    generalize x.ev fr = xv at hr hX
    cases xv <;> (try simp only at hr) <;> try (cases hr; done)
    case nils =>
      injection hr with hr
      subst hr
      obtain ⟨B, hB⟩ := vr_nils (show VR M C .nils (a.eval X) from hX)
      refine ⟨C, β, w, .int .i64 0, h.put hd (VR.int _ _), .inl (key _ _ _ _ hB hA (fun ty => ?_))⟩
      have hf := hfirst 0 (Nat.zero_le _) w.drawn
      simp only [Nat.zero_mul, List.take_zero] at hf
      have hf' : (Builtin.firstCells z 0 (.slice A ns.length c)).run M.P w = .ok #[] w := hf
      cases B <;> simp [Builtin.copy_, run_underlying ht, Builtin.lenOf, run_sizeOf hz, hf', storeCells, goInt]
    case slice id off len =>
      cases off with
      | succ off => simp at hr
      | zero =>
        simp only [Option.bind_eq_some_iff] at hr
        obtain ⟨es, hes, hr⟩ := hr
        split at hr
        · rename_i hcond
          obtain ⟨hlen, hne, hwz⟩ := hcond
          injection hr with hr
          subst hr
          obtain ⟨hlt, cur, et, hblk, ho⟩ := h.gr.ob id es hes
          have hzz : (C.io id).esz = z := by
            obtain ⟨e0, he0⟩ := List.exists_mem_of_ne_nil es hne
            obtain ⟨i0, hi0, rfl⟩ := List.getElem_of_mem he0
            rw [← (ho.el i0 _ (List.getElem?_eq_getElem hi0)).1, hwz _ he0]
          obtain ⟨cap, A0, hB, hid, hlc, ha⟩ := vr_slice (show VR M C (.slice id 0 len) (a.eval X) from hX)
          have hf := hfirst (min ns.length len) (Nat.min_le_left _ _) w.drawn
          have hf' : (Builtin.firstCells z (min ns.length len) (.slice A ns.length c)).run M.P w = .ok (news.take (min ns.length len * z)).toArray w := hf
          have htk := take_els hnr (min ns.length len) (Nat.min_le_left _ _)
          rw [← hzz] at htk
          have hk1 : (ns.take (min ns.length len)).length = min ns.length len := by simp
          rcases ha with ⟨rfl, hcap⟩ | hcap
          · have hfit : 0 + (news.take (min ns.length len * z)).length ≤ cur.size := by
              have := htk.len
              rw [hzz] at this
              rw [this, hk1, ho.size, hzz, Nat.zero_add]
              exact Nat.mul_le_mul_right _ (by have := ho.fit; omega)
            have hst := run_storeCells_at M.P (C.io id).blk 0 et (news.take (min ns.length len * z)) 0 cur w hblk (by simpa using hfit) (fun v hv => hnr.one v (List.mem_of_mem_take hv))
            simp only [Nat.add_zero, List.take_zero, List.nil_append, Nat.zero_add] at hst
            have hover := ob_over ho htk (by rw [hk1]; omega)
            rw [hk1, hzz] at hover
            refine ⟨C, β, _, .int .i64 (min ns.length len : Nat), (h.set hes hblk hover).put hd (VR.int _ _), .inl (key _ _ _ _ hB hA (fun ty => ?_))⟩
            simp only [Nat.zero_mul]
            exact run_copy ht hz hf' (by simpa using hst)
          · have hlen0 : len = 0 := by omega
            subst hlen0
            simp only [Nat.min_zero, Nat.zero_mul, List.take_zero] at hf' htk
            refine ⟨C, β, w, .int .i64 ((min ns.length 0 : Nat) : Int), ?_, .inl (key _ _ _ _ hB hA (fun ty => ?_))⟩
            · have hsame : updO G.obj id (some (ns.take (min ns.length 0) ++ es.drop (min ns.length 0))) = G.obj := by
                funext i
                simp only [updO, Nat.min_zero, List.take_zero, List.drop_zero, List.nil_append]
                split
                · rename_i e; rw [e]; exact hes.symm
                · rfl
              rw [hsame]
              exact h.put hd (VR.int _ _)
            · simp [Builtin.copy_, run_underlying ht, Builtin.lenOf, run_sizeOf hz, hf', storeCells, goInt]
        · cases hr
  · cases hr
end
end Go.Ai
set_option linter.unusedVariables false
set_option linter.unusedSimpArgs false
namespace Go.Ai
variable {M : SM}

theorem omap_get {α β : Type} {f : α → Option β} : ∀ {xs : List α} {ys : List β}, omap f xs = some ys → ys.length = xs.length ∧ ∀ (i : Nat) x y, xs[i]? = some x → ys[i]? = some y → f x = some y := by
  intro xs
  induction xs with
  | nil => intro ys h; simp only [omap] at h; injection h with h; subst h; simp
  | cons x xs ih =>
    intro ys h
    simp only [omap, Option.bind_eq_some_iff] at h
    obtain ⟨y, hy, ys', hys, h⟩ := h
    injection h with h
    subst h
    obtain ⟨h1, h2⟩ := ih hys
    refine ⟨by simp [h1], fun i a b ha hb => ?_⟩
    cases i with
    | zero => simp at ha hb; rw [← ha, ← hb]; exact hy
    | succ i => simp at ha hb; exact h2 i a b ha hb
theorem omap_back {α β : Type} {f : α → Option β} {xs : List α} {ys : List β} (h : omap f xs = some ys) {i : Nat} {y : β} (hy : ys[i]? = some y) : ∃ x, xs[i]? = some x ∧ f x = some y := by
  obtain ⟨h1, h2⟩ := omap_get h
  have hi : i < xs.length := by rw [← h1]; exact (List.getElem?_eq_some_iff.1 hy).1
  exact ⟨xs[i], List.getElem?_eq_getElem hi, h2 i _ y (List.getElem?_eq_getElem hi) hy⟩

open Classical in
/-- What is known when the heap's rows are read only. -/
noncomputable def frzC (C : Cx) (G : AG) (w : World) : Cx := ⟨C.n, C.io, fun b => if live C G b then (match w.heap[b]? with | some (.cells cur _ _) => some cur | _ => none) else C.im b⟩
theorem frzC_im {C : Cx} {G : AG} {w : World} (h : GR M C G w) {id : Nat} {es : Obj'} {cur : Array Value} {ty : TypeId} {f : Nat × Nat} (hid : G.obj id = some es) (hb : w.heap[(C.io id).blk]? = some (.cells cur ty f)) : (frzC C G w).im (C.io id).blk = some cur := by
  simp only [frzC]
  rw [if_pos ⟨id, es, hid, rfl⟩, hb]
theorem frzC_le {C : Cx} {G : AG} {w : World} (h : GR M C G w) : C.le (frzC C G w) := by
  refine ⟨Nat.le_refl _, fun _ _ => rfl, fun b arr hb => ?_⟩
  simp only [frzC]
  rw [if_neg]; exact hb
  rintro ⟨id, es, hid, e⟩
  exact (h.im b arr hb).2 id es hid e
theorem frzC_at {C : Cx} {G : AG} {w : World} (h : GR M C G w) {id : Nat} {es : Obj'} {cur : Array Value} {ty : TypeId} {f : Nat × Nat} (hid : G.obj id = some es) (hb : w.heap[(C.io id).blk]? = some (.cells cur ty f)) (p : Nat) : (frzC C G w).at (C.io id).blk p = cur[p]? := by
  simp only [Cx.at, frzC_im h hid hb, Option.bind_some]

theorem frz_li {C : Cx} {G : AG} {w : World} (h : GR M C G w) {d : Nat} (ih : ∀ v v' V, frz d G.obj v = some v' → VR M C v V → VR M (frzC C G w) v' V) {id : Nat} {es : Obj'} {es' : Obj'} (hid : G.obj id = some es) (off len : Nat)
    (hes : omap (omap (frz d G.obj)) ((es.drop off).take len) = some es') : LiR M (frzC C G w) es' (C.io id).esz (C.io id).blk (off * (C.io id).esz) := by
  obtain ⟨_, cur, ty, hb, ho⟩ := h.ob id es hid
  have key : ∀ i e', es'[i]? = some e' → ∃ e, es[off + i]? = some e ∧ omap (frz d G.obj) e = some e' := by
    intro i e' he'
    obtain ⟨e, he, hf⟩ := omap_back hes he'
    rw [List.getElem?_take] at he
    split at he
    · rw [List.getElem?_drop] at he; exact ⟨e, he, hf⟩
    · cases he
  have hpos : ∀ i c : Nat, off * (C.io id).esz + (i * (C.io id).esz + c) = (off + i) * (C.io id).esz + c := by intro i c; rw [Nat.add_mul]; omega
  refine ⟨ho.pos, fun e' he' => ?_, fun i e' c he' hc => ?_, fun i e' c x' y he' hx' hy => ?_⟩
  · obtain ⟨i, hi, rfl⟩ := List.getElem_of_mem he'
    obtain ⟨e, he, hf⟩ := key i _ (List.getElem?_eq_getElem hi)
    rw [(omap_get hf).1]
    exact (ho.el _ e he).1
  · obtain ⟨e, he, hf⟩ := key i e' he'
    obtain ⟨h1, h2⟩ := ho.el _ e he
    have hc' : c < e.length := by rw [h1]; exact hc
    obtain ⟨y, hy, hr⟩ := h2.get (List.getElem?_eq_getElem hc')
    exact ⟨y, by rw [frzC_at h hid hb, hpos]; exact hy, hr.one⟩
  · obtain ⟨e, he, hf⟩ := key i e' he'
    obtain ⟨x, hx, hfx⟩ := omap_back hf hx'
    rw [frzC_at h hid hb, hpos] at hy
    exact ih x x' y hfx (((ho.el _ e he).2).at_ c x y hx hy).v

theorem frz_sound {C : Cx} {G : AG} {w : World} (h : GR M C G w) : ∀ (d : Nat) (v v' : AVal) (V : Value), frz d G.obj v = some v' → VR M C v V → VR M (frzC C G w) v' V := by
  intro d
  induction d with
  | zero => intro v v' V hf; simp [frz] at hf
  | succ d ih =>
    intro v v' V hf hv
    have hle := frzC_le h
    have hlist : ∀ (cs cs' : List AVal) (arr : Array Value), omap (frz d G.obj) cs = some cs' → (∀ (i : Nat) x y, cs[i]? = some x → arr[i]? = some y → VR M C x y) → ∀ (i : Nat) x y, cs'[i]? = some x → arr[i]? = some y → VR M (frzC C G w) x y := by
      intro cs cs' arr ho hh i x y hx hy
      obtain ⟨x0, h1, h2⟩ := omap_back ho hx
      exact ih x0 x y h2 (hh i x0 y h1 hy)
    simp only [frz] at hf
    cases hv with
    | nils A =>
      injection hf with hf; subst hf
      have : LiR M (frzC C G w) [] 1 0 0 := ⟨Nat.one_pos, by simp, by simp, by simp⟩
      exact this.list (cap := 0) (Nat.le_refl _) (by simp)
    | slice id off len cap a hlt hl ha =>
      simp only [Option.bind_eq_some_iff] at hf
      obtain ⟨es, hid, hf⟩ := hf
      split at hf
      · rename_i hfit
        simp only [Option.map_eq_some_iff] at hf
        obtain ⟨es', hes, rfl⟩ := hf
        have hli := frz_li h ih hid off len hes
        have hlen : es'.length = len := by rw [(omap_get hes).1]; simp; omega
        rcases ha with ⟨rfl, _⟩ | hc
        · have := hli.list (A := some ⟨(C.io id).blk, off * (C.io id).esz, none⟩) (cap := cap) (by omega) (fun _ => rfl)
          rw [hlen] at this; exact this
        · have h0 : es' = [] := List.length_eq_zero_iff.1 (by omega)
          have := hli.list (A := some a) (cap := cap) (by omega) (fun hne => absurd h0 hne)
          rw [hlen] at this; exact this
      · cases hf
    | ptr id i c hlt =>
      simp only [Option.bind_eq_some_iff, Option.map_eq_some_iff] at hf
      obtain ⟨es, hid, es', hes, rfl⟩ := hf
      have hli := frz_li h ih (es' := es') hid 0 es.length (by simpa using hes)
      have := hli.iptr i c
      simpa using this
    | agg cs arr hl h1 hh =>
      simp only [Option.map_eq_some_iff] at hf
      obtain ⟨cs', hcs, rfl⟩ := hf
      exact .agg cs' arr (by rw [(omap_get hcs).1]; exact hl) h1 (hlist cs cs' arr hcs hh)
    | tuple cs arr hl hh =>
      simp only [Option.map_eq_some_iff] at hf
      obtain ⟨cs', hcs, rfl⟩ := hf
      exact .tuple cs' arr (by rw [(omap_get hcs).1]; exact hl) (hlist cs cs' arr hcs hh)
    | func f k caps args hk hl hh =>
      simp only [Option.map_eq_some_iff] at hf
      obtain ⟨cs', hcs, rfl⟩ := hf
      exact .func f k cs' args hk (by rw [(omap_get hcs).1]; exact hl) (hlist caps cs' args hcs hh)
    | iface tag t v V ht hv =>
      simp only [Option.map_eq_some_iff] at hf
      obtain ⟨v', hv', rfl⟩ := hf
      exact .iface tag t v' V ht (ih v v' V hv' hv)
    | int k n => injection hf with hf; subst hf; exact .int k n
    | bool b => injection hf with hf; subst hf; exact .bool b
    | str b => injection hf with hf; subst hf; exact .str b
    | nilp => injection hf with hf; subst hf; exact .nilp
    | nilf => injection hf with hf; subst hf; exact .nilf
    | nili => injection hf with hf; subst hf; exact .nili
    | meth nm t V k h => injection hf with hf; subst hf; exact .meth nm t V k h
    | anyb b => injection hf with hf; subst hf; exact .anyb b
    | list es z b o cap A hz0 hl hA hz hex hv =>
      injection hf with hf; subst hf
      exact (VR.list es z b o cap A hz0 hl hA hz hex hv).mono hle
    | iptr es i c z b o hz0 hz hex hv =>
      injection hf with hf; subst hf
      exact (VR.iptr es i c z b o hz0 hz hex hv).mono hle

/-- What holds of no read only row is the same with fewer of them. -/
theorem noImms_mem : ∀ {cs : List AVal}, noImm.noImms cs = true → ∀ c ∈ cs, noImm c = true := by
  intro cs
  induction cs with
  | nil => simp
  | cons v vs ih =>
    intro h c hc
    simp only [noImm.noImms, Bool.and_eq_true] at h
    rcases List.mem_cons.1 hc with rfl | hc
    · exact h.1
    · exact ih h.2 c hc
theorem VR.noIm {C : Cx} {im' : Nat → Option (Array Value)} {v : AVal} {V : Value} (h : VR M C v V) : noImm v = true → VR M ⟨C.n, C.io, im'⟩ v V := by
  induction h with
  | int k n => exact fun _ => .int k n
  | bool b => exact fun _ => .bool b
  | str s => exact fun _ => .str s
  | nilp => exact fun _ => .nilp
  | ptr id i c h => exact fun _ => VR.ptr (C := ⟨C.n, C.io, im'⟩) id i c h
  | nils a => exact fun _ => .nils a
  | slice id off len cap a h hl ha => exact fun _ => VR.slice (C := ⟨C.n, C.io, im'⟩) id off len cap a h hl ha
  | nilf => exact fun _ => .nilf
  | nili => exact fun _ => .nili
  | agg cs arr hl h1 h ih => exact fun hn => .agg cs arr hl h1 (fun i x y hx hy => ih i x y hx hy (noImms_mem hn x (List.mem_of_getElem? hx)))
  | tuple cs arr hl h ih => exact fun hn => .tuple cs arr hl (fun i x y hx hy => ih i x y hx hy (noImms_mem hn x (List.mem_of_getElem? hx)))
  | list => intro hn; simp [noImm] at hn
  | iptr => intro hn; simp [noImm] at hn
  | func => intro hn; simp [noImm] at hn
  | iface => intro hn; simp [noImm] at hn
  | meth => intro hn; simp [noImm] at hn
  | anyb => intro hn; simp [noImm] at hn
end Go.Ai
