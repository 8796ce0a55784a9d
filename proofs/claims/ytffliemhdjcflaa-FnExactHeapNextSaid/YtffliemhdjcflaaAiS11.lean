/- Literals, make, copy. -/
import Derived.Test.YtffliemhdjcflaaAiS10
set_option linter.unusedVariables false
set_option linter.unusedSimpArgs false
namespace Go.Ai
variable {M : SM}

section
variable {bx : List Nat} {N : Nat} {C0 : Cx} {w0 : World} {L : Nat → Prop} {C C' : Cx} {β : Nat → Nat} {fr fr' : Fr} {G G' : AG} {a : Act} {w w' : World}
variable {call : CallF} {mt : Nat → Nat → Option Nat} {dst : Option Tmp} {ty : TypeId} {pos : String} {after : Array Edge} {guard : Option (Nat × Bool)} {j : Nat}

theorem fill_lits {C : Cx} {z tot : Nat} (hz : 0 < z) : ∀ (qs : List (Nat × Value)) (es : Obj') (k : Nat) (cells : Array Value), cells.size = tot → (k + qs.length) * z ≤ tot → es.length = qs.length →
    (∀ (i : Nat) q e, qs[i]? = some q → es[i]? = some e → q.1 = k + i ∧ CsR M C e q.2.cells 0 ∧ e.length = q.2.cells.size ∧ e.length = z) →
    ∃ arr, Instr.fill (fun i => some (i * z, z)) cells qs = some arr ∧ arr.size = tot ∧ (∀ p, p < k * z → arr[p]? = cells[p]?) ∧ ∀ (i : Nat) e, es[i]? = some e → CsR M C e arr ((k + i) * z) := by
  intro qs
  induction qs with
  | nil =>
    intro es k cells hs _ hl _
    have : es = [] := List.eq_nil_of_length_eq_zero hl
    subst this
    exact ⟨cells, rfl, hs, fun _ _ => rfl, by simp⟩
  | cons q qs ih =>
    intro es k cells hs hfit hl hq
    cases es with
    | nil => simp at hl
    | cons e es =>
      obtain ⟨qi, qv⟩ := q
      obtain ⟨h1, h2, h3, h4⟩ := hq 0 (qi, qv) e rfl rfl
      simp only [Nat.add_zero] at h1
      have h3 : e.length = qv.cells.size := h3
      have h2 : CsR M C e qv.cells 0 := h2
      subst h1
      have hkz : (qi + 1) * z ≤ tot := Nat.le_trans (Nat.mul_le_mul_right _ (by simp)) hfit
      rw [Nat.add_mul, Nat.one_mul] at hkz
      obtain ⟨f1, f2⟩ := foldl_set (qi * z) qv.cells.toList 0 cells
      have heq : qv.cells.zipIdx.foldl (fun cs (c, j) => cs.setIfInBounds (qi * z + j) c) cells = (qv.cells.toList.zipIdx 0).foldl (fun cs x => cs.setIfInBounds (qi * z + x.2) x.1) cells := by
        rw [← Array.foldl_toList, Array.toList_zipIdx]
      generalize (qv.cells.toList.zipIdx 0).foldl (fun cs x => cs.setIfInBounds (qi * z + x.2) x.1) cells = cells1 at f1 f2 heq
      obtain ⟨arr, g1, g2, g3, g4⟩ := ih es (qi + 1) cells1 (by rw [← hs]; exact f1) (by rw [show qi + 1 + qs.length = qi + (qs.length + 1) by omega]; simpa using hfit) (by simpa using hl) (fun i q e' hi he => by
        have := hq (i + 1) q e' (by simpa using hi) (by simpa using he)
        rw [show qi + 1 + i = qi + (i + 1) by omega]; exact this)
      refine ⟨arr, ?_, g2, fun p hp => ?_, fun i e' he => ?_⟩
      · simp only [Instr.fill]
        rw [if_neg]
        · rw [heq]; exact g1
        · simp only [ne_eq, Bool.or_eq_true, decide_eq_true_eq, not_or, Decidable.not_not]
          exact ⟨by omega, by omega⟩
      · rw [g3 p (by rw [Nat.add_mul]; omega), f2 p, if_neg (by omega)]
      · cases i with
        | zero =>
          simp at he
          subst he
          simp only [Nat.add_zero]
          refine ⟨by rw [g2]; omega, fun c x y hx hy => ?_⟩
          have hc : c < z := by rw [← h4]; exact (List.getElem?_eq_some_iff.1 hx).1
          rw [g3 _ (by rw [Nat.add_mul]; omega), f2, if_pos (by simp; omega)] at hy
          refine h2.at_ c x y hx ?_
          rw [Nat.zero_add]
          simpa using hy
        | succ i =>
          have := g4 i e' (by simpa using he)
          rw [show qi + (i + 1) = qi + 1 + i by omega]; exact this
theorem gcellss_get : ∀ (xs : List Opd) (es : Obj'), gcellss fr xs = some es → es.length = xs.length ∧ ∀ (i : Nat) x, xs[i]? = some x → ∃ e, es[i]? = some e ∧ gcells fr x = some e := by
  intro xs
  induction xs with
  | nil => intro vs h; injection h with h; subst h; exact ⟨rfl, by simp⟩
  | cons x xs ih =>
    intro vs h
    simp only [gcellss, Option.bind_eq_some_iff] at h
    obtain ⟨v, hv, vs', hvs, h⟩ := h
    injection h with h
    subst h
    obtain ⟨h1, h2⟩ := ih vs' hvs
    refine ⟨by simp [h1], fun i y hy => ?_⟩
    cases i with
    | zero => simp at hy; subst hy; exact ⟨v, rfl, hv⟩
    | succ i => exact h2 i y hy
structure LitT (M : SM) (t e : TypeId) (z len : Nat) (ps : List Opd) (parts : Array (Nat × Operand)) (zv : Value) : Prop where
  ht : M.P.underlying t = some (.slice e)
  hs : (M.P.info? e).map (·.size) = some z
  hzero : (M.P.info? e).bind (·.zero) = some zv
  z0 : 0 < z
  big : len * z ≤ 16777216
  l1 : ps.length = len
  l2 : parts.size = len
  hp : ∀ (k : Nat) p q, ps[k]? = some p → parts[k]? = some q → q.1 = k ∧ OpR M p q.2
theorem lit_run (h : St M bx N C0 w0 L C β fr G a w) {t e : TypeId} {z len : Nat} {ps : List Opd} {parts : Array (Nat × Operand)} {zv : Value} (hl : LitT M t e z len ps parts zv) {es : Obj'} (hes : gcellss fr ps = some es) (hw : ∀ x ∈ es, x.length = z) :
    ∃ arr, (execOp a.eval ⟨dst, .buildSlice t len parts, ty, pos, after, guard⟩).run M.P w = .ok (.value (.slice (some ⟨w.heap.size, 0, none⟩) len len)) (w.alloc (.cells arr e)) ∧ arr.size = len * z ∧ ∀ (i : Nat) x, es[i]? = some x → CsR M C x arr (i * z) := by
  obtain ⟨g1, g2⟩ := gcellss_get ps es hes
  have hlen : es.length = len := by rw [g1, hl.l1]
  let zero : Array Value := if len * z = 0 then #[] else zv.cells
  let cells0 : Array Value := (Array.range (len * z)).map fun i => zero[i % zero.size]!
  obtain ⟨arr, f1, f2, _, f4⟩ := fill_lits (M := M) (C := C) (tot := len * z) hl.z0 (parts.toList.map fun (i, x) => (i, a.eval x)) es 0 cells0 (by simp [cells0]) (by simp [hl.l2]) (by simp [hlen, hl.l2]) (fun i q e' hq he => by
    simp only [List.getElem?_map, Option.map_eq_some_iff] at hq
    obtain ⟨⟨qi, qx⟩, hq1, rfl⟩ := hq
    have hi : i < ps.length := by rw [← g1]; exact (List.getElem?_eq_some_iff.1 he).1
    obtain ⟨e2, he2, hc⟩ := g2 i _ (List.getElem?_eq_getElem hi)
    rw [he] at he2; injection he2 with he2; subst he2
    obtain ⟨hk, hr⟩ := hl.hp i _ (qi, qx) (List.getElem?_eq_getElem hi) (by simpa using hq1)
    obtain ⟨c1, c2⟩ := h.gcells hr hc
    exact ⟨by simpa using hk, c1, c2, hw _ (List.mem_of_getElem? he)⟩)
  refine ⟨arr, ?_, f2, fun i x hx => by simpa using f4 i x hx⟩
  obtain ⟨i0, hi0, hs⟩ := Option.map_eq_some_iff.1 hl.hs
  have hz0 : i0.zero = some zv := by have := hl.hzero; rw [hi0] at this; simpa using this
  have hbig : ¬ (2 ^ 24 < len * z) := by have := hl.big; omega
  by_cases h0 : len * z = 0
  · have f1' : Instr.fill (fun i => some (i * z, z)) ((Array.range (len * z)).map fun i => (#[] : Array Value)[i % (#[] : Array Value).size]!) (parts.toList.map fun (i, x) => (i, a.eval x)) = some arr := by
      have : cells0 = (Array.range (len * z)).map fun i => (#[] : Array Value)[i % (#[] : Array Value).size]! := by simp only [cells0, zero, if_pos h0]
      rw [← this]; exact f1
    simp only [execOp, Instr.buildSlice, Sem.run_bind, run_underlying hl.ht, Result.andThen_ok, sizeOf, typeInfo, run_program, hi0, Sem.run_pure, hs, gt_iff_lt, Sem.run_ite, if_neg hbig, if_pos h0, Array.toList_map, f1', newRow, run_newObj]
    rfl
  · have f1' : Instr.fill (fun i => some (i * z, z)) ((Array.range (len * z)).map fun i => zv.cells[i % zv.cells.size]!) (parts.toList.map fun (i, x) => (i, a.eval x)) = some arr := by
      have : cells0 = (Array.range (len * z)).map fun i => zv.cells[i % zv.cells.size]! := by simp only [cells0, zero, if_neg h0]
      rw [← this]; exact f1
    simp only [execOp, Instr.buildSlice, Sem.run_bind, run_underlying hl.ht, Result.andThen_ok, sizeOf, typeInfo, run_program, hi0, Sem.run_pure, hs, gt_iff_lt, Sem.run_ite, if_neg hbig, if_neg h0, zeroValue, hz0, Array.toList_map, f1', newRow, run_newObj]
    rfl
theorem e_litI (h : St M bx N C0 w0 L C β fr G a w) {t e : TypeId} {z len : Nat} {ps : List Opd} {parts : Array (Nat × Operand)} {zv : Value} (hl : LitT M t e z len ps parts zv) (hd : ∀ t, dst = some t → t < N ∧ t ∉ bx)
    (he : evD call mt ⟨j, dst, none, .litI z ps⟩ fr G = some (fr', G')) : Goes M bx N C0 w0 L fr' G' a w dst ((execOp a.eval ⟨dst, .buildSlice t len parts, ty, pos, after, guard⟩).run M.P w) := by
  simp only [evD, evOp, Option.bind_eq_some_iff] at he
  obtain ⟨r, ⟨es, hes, hr⟩, he⟩ := he
  split at hr
  · rename_i hw
    injection hr with hr
    subst hr
    injection he with he; injection he with h1 h2
    subst h1 h2
    obtain ⟨arr, hrun, hsize, hel⟩ := lit_run h hl hes hw
    have hlen : es.length = len := by rw [(gcellss_get ps es hes).1, hl.l1]
    obtain ⟨h3, h4⟩ := h.imm (arr := arr) (ty := e)
    have hli : LiR M (immC C w.heap.size arr) es z w.heap.size 0 := by
      have hat : ∀ p, (immC C w.heap.size arr).at w.heap.size p = arr[p]? := fun p => by simp [Cx.at, immC]
      refine ⟨hl.z0, hw, fun i e c hi hc => ?_, fun i e c x y hi hx hy => ?_⟩
      · have hcs := hel i e hi
        have hcl : c < e.length := by rw [hw e (List.mem_of_getElem? hi)]; exact hc
        obtain ⟨y, hy, hcr⟩ := hcs.get (List.getElem?_eq_getElem hcl)
        exact ⟨y, by rw [hat, Nat.zero_add]; exact hy, hcr.one⟩
      · rw [hat, Nat.zero_add] at hy
        exact ((hel i e hi).at_ c x y hx hy).v.mono h4
    refine ⟨_, _, _, _, h3.put hd (v := .list es) (V := .slice (some ⟨w.heap.size, 0, none⟩) len len) ?_, .inl hrun⟩
    have := hli.list (cap := len) (A := some ⟨w.heap.size, 0, none⟩) (by omega) (fun _ => rfl)
    rw [hlen] at this
    exact this
  · cases hr
theorem e_litO (h : St M bx N C0 w0 L C β fr G a w) {t e : TypeId} {z len : Nat} {ps : List Opd} {parts : Array (Nat × Operand)} {zv : Value} (hl : LitT M t e z len ps parts zv) (hd : ∀ t, dst = some t → t < N ∧ t ∉ bx)
    (he : evD call mt ⟨j, dst, none, .litO z ps⟩ fr G = some (fr', G')) : Goes M bx N C0 w0 L fr' G' a w dst ((execOp a.eval ⟨dst, .buildSlice t len parts, ty, pos, after, guard⟩).run M.P w) := by
  simp only [evD, evOp, Option.bind_eq_some_iff] at he
  obtain ⟨r, ⟨es, hes, hr⟩, he⟩ := he
  injection he with he; injection he with h1 h2
  subst h1 h2
  have hlen : es.length = len := by rw [(gcellss_get ps es hes).1, hl.l1]
  split at hr
  · rename_i h0
    injection hr with hr
    subst hr h0
    obtain ⟨arr, hrun, hsize, hel⟩ := lit_run h hl hes (by simp)
    obtain ⟨h3, h4⟩ := h.imm (arr := arr) (ty := e)
    have hlen0 : len = 0 := by simpa using hlen.symm
    subst hlen0
    exact ⟨_, _, _, _, h3.put hd (v := .nils) (V := .slice (some ⟨w.heap.size, 0, none⟩) 0 0) (VR.nils _), .inl hrun⟩
  · rename_i h0
    split at hr
    · rename_i hw
      injection hr with hr
      subst hr
      obtain ⟨arr, hrun, hsize, hel⟩ := lit_run h hl hes hw
      have hmax : len ≤ maxLen := by
        have h1 := hl.big; have h2 := hl.z0
        have : len * 1 ≤ len * z := Nat.mul_le_mul_left _ h2
        simp only [maxLen]; omega
      obtain ⟨h3, h4⟩ := h.new (esz := z) (cap := len) (ty := e) (es := es) (cur := arr) ⟨hl.z0, hsize, hmax, by show es.length ≤ len; omega, fun i x hx => ⟨hw x (List.mem_of_getElem? hx), hel i x hx⟩⟩
      refine ⟨_, _, _, _, h3.put hd (v := .slice G.next 0 es.length) (V := .slice (some ⟨w.heap.size, 0, none⟩) len len) ?_, .inl hrun⟩
      rw [hlen]
      refine VR.slice G.next 0 len len _ (Nat.lt_succ_self _) (Nat.le_refl _) (.inl ⟨?_, ?_⟩)
      · simp [newC]
      · simp [newC]
    · cases hr
theorem e_mks (h : St M bx N C0 w0 L C β fr G a w) {t e : TypeId} {z : List AVal} {bytes : Nat} {n : Opd} {X Y : Operand} {zv : Value} (hx : OpR M n X) (hy : OpR M n Y) (he' : ElT M.P t e z.length bytes zv) (hr : ∀ C, CsR M C z zv.cells 0) (hd : ∀ t, dst = some t → t < N ∧ t ∉ bx)
    (he : evD call mt ⟨j, dst, none, .mks z bytes n⟩ fr G = some (fr', G')) : Goes M bx N C0 w0 L fr' G' a w dst ((execOp a.eval ⟨dst, .makeSlice t X Y, ty, pos, after, guard⟩).run M.P w) := by
  simp only [evD, evOp, Option.bind_eq_some_iff] at he
  obtain ⟨r, hr', he⟩ := he
  injection he with he; injection he with h1 h2
  subst h1 h2
  have hX := h.ev hx; have hY := h.ev hy
  obtain ⟨i0, hi0, hh⟩ := Option.map_eq_some_iff.1 he'.hi
  simp only [Prod.mk.injEq] at hh
  obtain ⟨hsz, hby, hzv⟩ := hh
  generalize n.ev fr = nv at hr' hX hY
  cases nv <;> (try simp only at hr') <;> try (cases hr'; done)
  rename_i k m
  cases k <;> (try simp only at hr') <;> try (cases hr'; done)
  have e1 := vr_int (show VR M C (.int .i64 m) (a.eval X) from hX)
  have e2 := vr_int (show VR M C (.int .i64 m) (a.eval Y) from hY)
  have key : 0 ≤ m → m * bytes ≤ maxA → (execOp a.eval ⟨dst, .makeSlice t X Y, ty, pos, after, guard⟩).run M.P w = .ok (.value (.slice (some ⟨w.heap.size, 0, none⟩) m.toNat m.toNat)) (w.alloc (.cells (madeCells zv.cells (m.toNat * z.length)) e)) := by
    intro h0 hb
    have hb1 : m * 1 ≤ m * bytes := Int.mul_le_mul_of_nonneg_left (by have := he'.b0; omega) h0
    have hmx : (maxA : Int) = 1099511627776 := rfl
    have hrun := run_make (P := M.P) w t e i0 zv he'.ht hi0 hzv .i64 .i64 m m h0 (Int.le_refl _) (by rw [hby, Int.mul_comm]; omega) (by omega)
    simp only [execOp, e1, e2, Sem.run_bind, hrun, Result.andThen_ok, Sem.run_pure, hsz]
  split at hr'
  · rename_i h0
    injection hr' with hr'
    subst hr' h0
    have hrun := key (Int.le_refl _) (by simp [maxA])
    obtain ⟨h3, h4⟩ := h.imm (arr := madeCells zv.cells ((0 : Int).toNat * z.length)) (ty := e)
    exact ⟨_, _, _, _, h3.put hd (v := .nils) (V := .slice (some ⟨w.heap.size, 0, none⟩) 0 0) (VR.nils _), .inl hrun⟩
  · rename_i h0
    split at hr'
    · rename_i hc
      injection hr' with hr'
      subst hr'
      have hrun := key hc.1 hc.2
      have hmz : ((m.toNat : Nat) : Int) = m := Int.toNat_of_nonneg hc.1
      have hb1 : m * 1 ≤ m * bytes := Int.mul_le_mul_of_nonneg_left (by have := he'.b0; omega) hc.1
      have hmx : (maxA : Int) = 1099511627776 := rfl
      have hmax : m.toNat ≤ maxLen := by simp only [maxLen]; omega
      have hel : ∀ i, i < m.toNat → CsR M C z (madeCells zv.cells (m.toNat * z.length)) (i * z.length) := by
        intro i hi
        have hfit : i * z.length + z.length ≤ m.toNat * z.length := by
          have : (i + 1) * z.length ≤ m.toNat * z.length := Nat.mul_le_mul_right _ hi
          rw [Nat.add_mul] at this; omega
        refine (hr C).sub (by rw [size_madeCells]; exact hfit) (fun c hc => ?_)
        have hlt : i * z.length + c < m.toNat * z.length := by omega
        have hzc : c < zv.cells.size := by rw [he'.hzv]; exact hc
        simp only [madeCells, Array.getElem?_map, Nat.zero_add, he'.hzv]
        rw [Array.getElem?_range, if_pos hlt]
        simp only [Option.map_some]
        have hmod : (i * z.length + c) % z.length = c := by rw [Nat.add_comm, Nat.add_mul_mod_self_right]; exact Nat.mod_eq_of_lt hc
        rw [hmod, Array.getElem?_eq_getElem hzc, getElem!_pos zv.cells c hzc]
      obtain ⟨h3, h4⟩ := h.new (esz := z.length) (cap := m.toNat) (ty := e) (es := List.replicate m.toNat z) (cur := madeCells zv.cells (m.toNat * z.length)) ⟨he'.z0, by rw [size_madeCells], hmax, by simp, fun i x hx => by
        obtain ⟨hi, hx⟩ := List.getElem?_eq_some_iff.1 hx
        simp at hi hx
        subst hx
        exact ⟨rfl, hel i (by omega)⟩⟩
      refine ⟨_, _, _, _, h3.put hd (v := .slice G.next 0 m.toNat) (V := .slice (some ⟨w.heap.size, 0, none⟩) m.toNat m.toNat) ?_, .inl hrun⟩
      refine VR.slice G.next 0 m.toNat m.toNat _ (Nat.lt_succ_self _) (Nat.le_refl _) (.inl ⟨?_, ?_⟩)
      · simp [newC]
      · simp [newC]
    · cases hr'

theorem ob_over {C : Cx} {o : OI} {es ns : Obj'} {cur : Array Value} {news : List Value} (ho : ObR M C o es cur) (hn : ElsR M C o.esz ns news) (hle : ns.length ≤ es.length) :
    ObR M C o (ns ++ es.drop ns.length) (news ++ cur.toList.drop news.length).toArray := by
  have hfit : 0 + news.length ≤ cur.size := by
    rw [hn.len, ho.size, Nat.zero_add]; exact Nat.mul_le_mul_right _ (Nat.le_trans hle ho.fit)
  obtain ⟨h1, h2⟩ := arr_splice hfit
  simp only [List.take_zero, List.nil_append, Nat.zero_add] at h1 h2
  refine ⟨ho.pos, by rw [h1]; exact ho.size, ho.big, by have := ho.fit; simp; omega, fun i e he => ?_⟩
  by_cases hi : i < ns.length
  · rw [List.getElem?_append_left hi] at he
    obtain ⟨h3, h4⟩ := hn.el i e he
    have h5 := h4.fit
    simp only [List.size_toArray] at h5
    refine ⟨h3, h4.sub (by rw [h1]; omega) (fun c hc => ?_)⟩
    rw [h2, if_pos (by omega)]
    simp
  · rw [List.getElem?_append_right (by omega), List.getElem?_drop, show ns.length + (i - ns.length) = i by omega] at he
    obtain ⟨h3, h4⟩ := ho.el i e he
    refine ⟨h3, h4.sub (by rw [h1]; exact h4.fit) (fun c hc => ?_)⟩
    rw [h2, if_neg]
    have : ns.length * o.esz ≤ i * o.esz := Nat.mul_le_mul_right _ (by omega)
    rw [hn.len]; omega
theorem take_els {C : Cx} {z : Nat} {es : Obj'} {L : List Value} (h : ElsR M C z es L) (n : Nat) (hn : n ≤ es.length) : ElsR M C z (es.take n) (L.take (n * z)) := by
  have hl : n * z ≤ L.length := by rw [h.len]; exact Nat.mul_le_mul_right _ hn
  refine ⟨by simp; rw [Nat.min_eq_left hl, Nat.min_eq_left hn], fun i e he => ?_⟩
  rw [List.getElem?_take] at he
  split at he
  · rename_i hi
    obtain ⟨h1, h2⟩ := h.el i e he
    have h3 : i * z + z ≤ n * z := by
      have : (i + 1) * z ≤ n * z := Nat.mul_le_mul_right _ hi
      rw [Nat.add_mul] at this; omega
    refine ⟨h1, h2.sub (by simp; omega) (fun c hc => ?_)⟩
    simp only [List.getElem?_toArray]
    rw [List.getElem?_take, if_pos (by omega)]
  · cases he
theorem run_copy {P : Program} {t t' e : TypeId} {z len cap n c : Nat} {A0 : Addr} {A : Option Addr} {cells : Array Value} {w w1 w2 : World} {ty : TypeId} (ht : P.underlying t = some (.slice e)) (hz : (P.info? e).map (·.size) = some z)
    (hf : (Builtin.firstCells z (min n len) (.slice A n c)).run P w = .ok cells w1) (hst : (storeCells A0 cells.toList).run P w1 = .ok () w2) :
    (Builtin.copy_ #[t, t'] ty #[.slice (some A0) len cap, .slice A n c]).run P w = .ok (.int .i64 ((min n len : Nat) : Int)) w2 := by
  have hf2 : (Builtin.firstCells z (Nat.min n len) (.slice A n c)).run P w = .ok cells w1 := hf
  have hu := run_underlying (w := w) ht
  have hs := run_sizeOf (w := w) hz
  unfold Builtin.copy_
  dsimp only [List.getElem?_toArray, List.getElem?_cons_zero, List.getElem?_cons_succ]
  simp [hu, hs, Builtin.lenOf, hf2, hst, goInt]
theorem e_cpy (h : St M bx N C0 w0 L C β fr G a w) {z : Nat} {x y : Opd} {t t' e : TypeId} {X Y : Operand} (hx : OpR M x X) (hy : OpR M y Y) (ht : M.P.underlying t = some (.slice e)) (hz : (M.P.info? e).map (·.size) = some z) (hz0 : 0 < z) (hd : ∀ t, dst = some t → t < N ∧ t ∉ bx)
    (he : evD call mt ⟨j, dst, none, .cpy z x y⟩ fr G = some (fr', G')) : Goes M bx N C0 w0 L fr' G' a w dst ((execOp a.eval ⟨dst, .call { callee := .builtin .copy, args := #[X, Y], argTypes := #[t, t'] }, ty, pos, after, guard⟩).run M.P w) := by
  simp only [evD, evOp, Option.bind_eq_some_iff] at he
  obtain ⟨r, ⟨ns, hns, hr⟩, he⟩ := he
  injection he with he; injection he with h1 h2
  subst h1 h2
  have hX := h.ev hx
  have hY := h.ev hy
  have key : ∀ (U W R : Value) (w' : World), a.eval X = U → a.eval Y = W → (∀ ty, (Builtin.copy_ #[t, t'] ty #[U, W]).run M.P w = .ok R w') → (execOp a.eval ⟨dst, .call { callee := .builtin .copy, args := #[X, Y], argTypes := #[t, t'] }, ty, pos, after, guard⟩).run M.P w = .ok (.value R) w' := by
    intro U W R w' hU hW hr
    simp only [execOp, resolve, Sem.run_bind, Sem.run_pure, Result.andThen_ok, invoke, builtin, List.map_toArray, List.map_cons, List.map_nil, hU, hW, hr]
  split at hr
  · rename_i hw
    have hyv : VR M C (y.ev fr) (a.eval Y) := VR_of_EvR hY (by intros; intro e; rw [e] at hns; cases hns) (by intros; intro e; rw [e] at hns; cases hns) (by intro e; rw [e] at hns; cases hns)
    obtain ⟨A, c, news, hA, hAc, hnr, hfirst⟩ := h.src hyv hz0 hns hw
    generalize x.ev fr = xv at hr hX
    cases xv <;> (try simp only at hr) <;> try (cases hr; done)
    case nils =>
      injection hr with hr
      subst hr
      obtain ⟨B, hB⟩ := vr_nils (show VR M C .nils (a.eval X) from hX)
      refine ⟨C, β, w, .int .i64 0, h.put hd (VR.int _ _), .inl (key _ _ _ _ hB hA (fun ty => ?_))⟩
      have hf := hfirst 0 (Nat.zero_le _) w.drawn
      simp only [Nat.zero_mul, List.take_zero] at hf
      have hf' : (Builtin.firstCells z 0 (.slice A ns.length c)).run M.P w = .ok #[] w := hf
      cases B <;> simp [Builtin.copy_, run_underlying ht, Builtin.lenOf, run_sizeOf hz, hf', storeCells, goInt]
    case slice id off len =>
      cases off with
      | succ off => simp at hr
      | zero =>
        simp only [Option.bind_eq_some_iff] at hr
        obtain ⟨es, hes, hr⟩ := hr
        split at hr
        · rename_i hcond
          obtain ⟨hlen, hne, hwz⟩ := hcond
          injection hr with hr
          subst hr
          obtain ⟨hlt, cur, et, hblk, ho⟩ := h.gr.ob id es hes
          have hzz : (C.io id).esz = z := by
            obtain ⟨e0, he0⟩ := List.exists_mem_of_ne_nil es hne
            obtain ⟨i0, hi0, rfl⟩ := List.getElem_of_mem he0
            rw [← (ho.el i0 _ (List.getElem?_eq_getElem hi0)).1, hwz _ he0]
          obtain ⟨cap, A0, hB, hid, hlc, ha⟩ := vr_slice (show VR M C (.slice id 0 len) (a.eval X) from hX)
          have hf := hfirst (min ns.length len) (Nat.min_le_left _ _) w.drawn
          have hf' : (Builtin.firstCells z (min ns.length len) (.slice A ns.length c)).run M.P w = .ok (news.take (min ns.length len * z)).toArray w := hf
          have htk := take_els hnr (min ns.length len) (Nat.min_le_left _ _)
          rw [← hzz] at htk
          have hk1 : (ns.take (min ns.length len)).length = min ns.length len := by simp
          rcases ha with ⟨rfl, hcap⟩ | hcap
          · have hfit : 0 + (news.take (min ns.length len * z)).length ≤ cur.size := by
              have := htk.len
              rw [hzz] at this
              rw [this, hk1, ho.size, hzz, Nat.zero_add]
              exact Nat.mul_le_mul_right _ (by have := ho.fit; omega)
            have hst := run_storeCells_at M.P (C.io id).blk 0 et (news.take (min ns.length len * z)) 0 cur w hblk (by simpa using hfit) (fun v hv => hnr.one v (List.mem_of_mem_take hv))
            simp only [Nat.add_zero, List.take_zero, List.nil_append, Nat.zero_add] at hst
            have hover := ob_over ho htk (by rw [hk1]; omega)
            rw [hk1, hzz] at hover
            refine ⟨C, β, _, .int .i64 (min ns.length len : Nat), (h.set hes hblk hover).put hd (VR.int _ _), .inl (key _ _ _ _ hB hA (fun ty => ?_))⟩
            simp only [Nat.zero_mul]
            exact run_copy ht hz hf' (by simpa using hst)
          · have hlen0 : len = 0 := by omega
            subst hlen0
            simp only [Nat.min_zero, Nat.zero_mul, List.take_zero] at hf' htk
            refine ⟨C, β, w, .int .i64 ((min ns.length 0 : Nat) : Int), ?_, .inl (key _ _ _ _ hB hA (fun ty => ?_))⟩
            · have hsame : updO G.obj id (some (ns.take (min ns.length 0) ++ es.drop (min ns.length 0))) = G.obj := by
                funext i
                simp only [updO, Nat.min_zero, List.take_zero, List.drop_zero, List.nil_append]
                split
                · rename_i e; rw [e]; exact hes.symm
                · rfl
              rw [hsame]
              exact h.put hd (VR.int _ _)
            · simp [Builtin.copy_, run_underlying ht, Builtin.lenOf, run_sizeOf hz, hf', storeCells, goInt]
        · cases hr
  · cases hr
end
end Go.Ai
