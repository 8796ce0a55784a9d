/- append, literals, make, copy. -/
import Derived.Test.YtffliemhdjcflaaAiS9
set_option linter.unusedVariables false
set_option linter.unusedSimpArgs false
namespace Go.Ai
variable {M : SM}

section
variable {bx : List Nat} {N : Nat} {C0 : Cx} {w0 : World} {L : Nat → Prop} {C C' : Cx} {β : Nat → Nat} {fr fr' : Fr} {G G' : AG} {a : Act} {w w' : World}
variable {call : CallF} {mt : Nat → Nat → Option Nat} {dst : Option Tmp} {ty : TypeId} {pos : String} {after : Array Edge} {guard : Option (Nat × Bool)} {j : Nat}

theorem CsR.sub {C : Cx} {e : List AVal} {A B : Array Value} {p q : Nat} (h : CsR M C e A p) (hf : q + e.length ≤ B.size) (hab : ∀ c, c < e.length → B[q + c]? = A[p + c]?) : CsR M C e B q :=
  ⟨hf, fun c x y hx hy => h.at_ c x y hx (by rw [← hab c (List.getElem?_eq_some_iff.1 hx).1]; exact hy)⟩
theorem ob_concat {C : Cx} {z cap b : Nat} {es ns : Obj'} {olds news : List Value} {rest : Array Value} (hz : 0 < z) (ho : ElsR M C z es olds) (hn : ElsR M C z ns news) (hle : es.length + ns.length ≤ cap) (hcap : cap ≤ maxLen)
    (hr : rest.size = (cap - (es.length + ns.length)) * z) : ObR M C ⟨b, z, cap⟩ (es ++ ns) (olds.toArray ++ news.toArray ++ rest) := by
  have hsize : (olds.toArray ++ news.toArray ++ rest).size = cap * z := by
    simp only [Array.size_append, List.size_toArray, ho.len, hn.len, hr, ← Nat.add_mul]
    congr 1; omega
  refine ⟨hz, hsize, hcap, by simpa using hle, fun i e he => ?_⟩
  by_cases hi : i < es.length
  · rw [List.getElem?_append_left hi] at he
    obtain ⟨h1, h2⟩ := ho.el i e he
    refine ⟨h1, h2.sub ?_ (fun c hc => ?_)⟩
    · have := h2.fit
      simp only [List.size_toArray] at this
      simp only [Array.size_append, List.size_toArray]; omega
    · have := h2.fit
      simp only [List.size_toArray] at this
      rw [Array.append_assoc, Array.getElem?_append_left (by simp; omega)]
  · rw [List.getElem?_append_right (by omega)] at he
    obtain ⟨h1, h2⟩ := hn.el (i - es.length) e he
    have hiz : i * z = es.length * z + (i - es.length) * z := by rw [← Nat.add_mul]; congr 1; omega
    refine ⟨h1, h2.sub ?_ (fun c hc => ?_)⟩
    · have := h2.fit
      simp only [List.size_toArray] at this
      simp only [Array.size_append, List.size_toArray, ho.len]; omega
    · have := h2.fit
      simp only [List.size_toArray] at this
      rw [Array.append_assoc, Array.getElem?_append_right (by simp [ho.len]; omega), Array.getElem?_append_left (by simp [ho.len]; omega)]
      congr 1
      simp [ho.len]; omega
theorem ob_fill {C : Cx} {o : OI} {es ns : Obj'} {cur : Array Value} {news : List Value} (ho : ObR M C o es cur) (hn : ElsR M C o.esz ns news) (hle : es.length + ns.length ≤ o.cap) :
    ObR M C o (es ++ ns) (cur.toList.take (es.length * o.esz) ++ news ++ cur.toList.drop (es.length * o.esz + news.length)).toArray := by
  have hfit : es.length * o.esz + news.length ≤ cur.size := by
    rw [hn.len, ← Nat.add_mul, ho.size]; exact Nat.mul_le_mul_right _ hle
  obtain ⟨h1, h2⟩ := arr_splice hfit
  refine ⟨ho.pos, by rw [h1]; exact ho.size, ho.big, by simpa using hle, fun i e he => ?_⟩
  by_cases hi : i < es.length
  · rw [List.getElem?_append_left hi] at he
    obtain ⟨h3, h4⟩ := ho.el i e he
    refine ⟨h3, h4.sub (by rw [h1]; exact h4.fit) (fun c hc => ?_)⟩
    rw [h2, if_neg]
    have : (i + 1) * o.esz ≤ es.length * o.esz := Nat.mul_le_mul_right _ hi
    rw [Nat.add_mul] at this
    omega
  · rw [List.getElem?_append_right (by omega)] at he
    obtain ⟨h3, h4⟩ := hn.el (i - es.length) e he
    have hiz : i * o.esz = es.length * o.esz + (i - es.length) * o.esz := by rw [← Nat.add_mul]; congr 1; omega
    have h5 := h4.fit
    simp only [List.size_toArray] at h5
    refine ⟨h3, h4.sub (by rw [h1]; omega) (fun c hc => ?_)⟩
    rw [h2, if_pos (by omega)]
    simp only [List.getElem?_toArray]
    congr 1; omega

/-- What is owned of an object's cells. -/
theorem ob_els {C : Cx} {o : OI} {es : Obj'} {cur : Array Value} {et : TypeId} {f : Nat × Nat} {w : World} (ho : ObR M C o es cur) (hb : w.heap[o.blk]? = some (.cells cur et f)) :
    ∃ olds : List Value, ElsR M C o.esz es olds ∧ ∀ j y, olds[j]? = some y → w.cell? ⟨o.blk, 0 + j, none⟩ = some y :=
  els_of (M := M) (C := C) (p := 0) hb (by rw [Nat.zero_add, ho.size]; exact Nat.mul_le_mul_right _ ho.fit) (fun i e he => by simpa using ho.el i e he)

structure ElT (P : Program) (t e : TypeId) (z bytes : Nat) (zv : Value) : Prop where
  ht : P.underlying t = some (.slice e)
  hi : (P.info? e).map (fun i => (i.size, i.bytes, i.zero)) = some (z, bytes, some zv)
  z0 : 0 < z
  b0 : 0 < bytes
  hzv : zv.cells.size = z
theorem ElT.size {P : Program} {t e : TypeId} {z bytes : Nat} {zv : Value} (h : ElT P t e z bytes zv) : (P.info? e).map (·.size) = some z := by
  obtain ⟨i, hi, hh⟩ := Option.map_eq_some_iff.1 h.hi
  simp only [Prod.mk.injEq] at hh
  rw [hi]; simp [hh.1]

theorem e_app (h : St M bx N C0 w0 L C β fr G a w) {z bytes : Nat} {x y : Opd} {t e : TypeId} {X Y : Operand} {zv : Value} (hx : OpR M x X) (hy : OpR M y Y) (he' : ElT M.P t e z bytes zv) (hd : ∀ t, dst = some t → t < N ∧ t ∉ bx)
    (he : evD call mt ⟨j, dst, none, .app z bytes x y⟩ fr G = some (fr', G')) : Goes M bx N C0 w0 L fr' G' a w dst ((execOp a.eval ⟨dst, .call { callee := .builtin .append, args := #[X, Y], argTypes := #[t, t] }, ty, pos, after, guard⟩).run M.P w) := by
  simp only [evD, evOp, Option.bind_eq_some_iff] at he
  obtain ⟨r, hr, he⟩ := he
  injection he with he; injection he with h1 h2
  subst h1 h2
  have hX := h.ev hx
  have hY := h.ev hy
  have key : ∀ (U W R : Value) (w' : World), a.eval X = U → a.eval Y = W → (∀ ty, (Builtin.append_ #[t, t] ty #[U, W]).run M.P w = .ok R w') → (execOp a.eval ⟨dst, .call { callee := .builtin .append, args := #[X, Y], argTypes := #[t, t] }, ty, pos, after, guard⟩).run M.P w = .ok (.value R) w' := by
    intro U W R w' hU hW hr
    simp only [execOp, resolve, Sem.run_bind, Sem.run_pure, Result.andThen_ok, invoke, builtin, List.map_toArray, List.map_cons, List.map_nil, hU, hW, hr]
  unfold appV at hr
  simp only [Option.bind_eq_some_iff] at hr
  obtain ⟨ns, hns, hr⟩ := hr
  split at hr
  · rename_i hw
    have hyv : VR M C (y.ev fr) (a.eval Y) := VR_of_EvR hY (by intros; intro e; rw [e] at hns; cases hns) (by intros; intro e; rw [e] at hns; cases hns) (by intro e; rw [e] at hns; cases hns)
    obtain ⟨A, c, news, hA, hAc, hnr, hfirstN⟩ := h.src hyv he'.z0 hns hw
    have hfirst : ∀ k, (Builtin.firstCells z ns.length (.slice A ns.length c)).run M.P { w with drawn := k } = .ok news.toArray { w with drawn := k } := fun k => by
      have := hfirstN ns.length (Nat.le_refl _) k
      rwa [← hnr.len, List.take_length] at this
    have hmz : news.length = ns.length * z := hnr.len
    generalize x.ev fr = xv at hr hX
    cases xv <;> (try simp only at hr) <;> try (cases hr; done)
    case nils =>
      obtain ⟨B, hB⟩ := vr_nils (show VR M C .nils (a.eval X) from hX)
      split at hr
      · rename_i h0
        injection hr with hr
        subst hr h0
        exact ⟨C, β, w, .slice B 0 0, h.put hd (VR.nils B), .inl (key _ _ _ _ hB hA (fun ty => app_none t ty e z he'.ht he'.size B A 0 0 c (Nat.le_refl _)))⟩
      · rename_i h0
        split at hr
        · rename_i hb
          injection hr with hr
          subst hr
          have hm0 : 0 < ns.length := List.length_pos_iff.2 h0
          have hbm : ns.length * 1 ≤ ns.length * bytes := Nat.mul_le_mul_left _ he'.b0
          obtain ⟨cap, hc1, hc2, hrun⟩ : ∃ cap, 0 + ns.length ≤ cap ∧ cap ≤ maxLen ∧ ∀ ty, (Builtin.append_ #[t, t] ty #[.slice B 0 0, .slice A ns.length c]).run M.P w = .ok (.slice (some ⟨w.heap.size, 0, none⟩) (0 + ns.length) cap)
              ({ w with drawn := w.drawn + 1 }.alloc (.cells (([] : List Value).toArray ++ news.toArray ++ Builtin.zeroCells zv.cells (cap - (0 + ns.length))) e)) := by
            refine ⟨grownCap w (0 + ns.length) 0 e, grownCap_ge w _ 0 e, grownCap_le_maxLen w _ 0 e (by simp only [maxA, maxLen] at *; omega), fun ty => ?_⟩
            exact app_grow_run (P := M.P) (w := w) t ty e z bytes zv he'.ht he'.hi B A 0 0 ns.length c [] news (by simp) hmz run_first0 hfirst (by omega) (by rw [Nat.zero_add]; simp only [maxA] at hb; omega) (by simp only [maxA, maxLen] at *; omega)
          have hob := ob_concat (M := M) (C := C) (z := z) (cap := cap) (b := w.heap.size) (es := []) (rest := Builtin.zeroCells zv.cells (cap - (0 + ns.length))) he'.z0 (olds := []) ⟨by simp, by simp⟩ hnr (by simpa using hc1) hc2 (by rw [size_zeroCells, he'.hzv]; simp)
          obtain ⟨h3, h4⟩ := (h.drew).new (esz := z) (cap := cap) (ty := e) (es := ns) hob
          refine ⟨_, _, _, _, h3.put hd (v := .slice G.next 0 ns.length) (V := .slice (some ⟨w.heap.size, 0, none⟩) (0 + ns.length) cap) ?_, .inl (key _ _ _ _ hB hA hrun)⟩
          rw [Nat.zero_add]
          refine VR.slice G.next 0 ns.length cap _ (Nat.lt_succ_self _) (by omega) (.inl ⟨?_, ?_⟩)
          · simp [newC]
          · simp [newC]
        · cases hr
    case slice id off len =>
      cases off with
      | succ off => simp at hr
      | zero =>
        simp only [Option.bind_eq_some_iff] at hr
        obtain ⟨es, hes, hr⟩ := hr
        split at hr
        · rename_i hcond
          obtain ⟨hlen, hne, hwz, hb⟩ := hcond
          injection hr with hr
          subst hr
          obtain ⟨hlt, cur, et, hblk, ho⟩ := h.gr.ob id es hes
          have hzz : (C.io id).esz = z := by
            obtain ⟨e0, he0⟩ := List.exists_mem_of_ne_nil es hne
            obtain ⟨i0, hi0, rfl⟩ := List.getElem_of_mem he0
            rw [← (ho.el i0 _ (List.getElem?_eq_getElem hi0)).1, hwz _ he0]
          obtain ⟨cap, A0, hB, hid, hlc, ha⟩ := vr_slice (show VR M C (.slice id 0 len) (a.eval X) from hX)
          have hpos : 0 < es.length := List.length_pos_iff.2 hne
          rcases ha with ⟨rfl, hcap⟩ | hcap
          · simp only [Nat.zero_mul] at hB
            have hb1 : (len + ns.length) * 1 ≤ (len + ns.length) * bytes := Nat.mul_le_mul_left _ he'.b0
            by_cases hroom : len + ns.length ≤ cap
            · have hfit : len * z + news.length ≤ cur.size := by rw [hmz, ← Nat.add_mul, ho.size, hzz]; exact Nat.mul_le_mul_right _ (by omega)
              have hrun := fun ty => app_fit (P := M.P) (w := w) t ty e z he'.ht he'.size (C.io id).blk len cap cur et hblk A ns.length c news hmz (hfirst w.drawn) hnr.one hroom hfit
              have hfill := ob_fill (o := C.io id) ho (by rw [hzz]; exact hnr) (by rw [hlen]; omega)
              rw [hlen, hzz] at hfill
              have hle : C.le (newC C G.next (C.io id)) := newC_le h.gr.n
              have hG1 : ∀ i e, updO G.obj id none i = some e → G.obj i = some e := by
                intro i e hi
                simp only [updO] at hi
                split at hi
                · cases hi
                · exact hi
              have hst := h.step (C' := newC C G.next (C.io id)) (G' := ⟨G.next + 1, updO (updO G.obj id none) G.next (some (es ++ ns))⟩) (w' := w.setRow (C.io id).blk (cur.toList.take (len * z) ++ news ++ cur.toList.drop (len * z + news.length)).toArray) hle
                (h.gr.add hG1 (fun i e hi e' => by
                    have hne' : i ≠ id := by rintro rfl; simp [updO] at hi
                    exact h.gr.inj i id e es (hG1 i e hi) hes hne' e') (fun arr hi => by
                    have := (h.gr.im _ arr hi).2 id es hes
                    exact this rfl) (fun b hb hbn => setRow_other w _ b _ hbn) ⟨_, et, setRow_heap w _ cur _ et _ hblk, hfill.mono hle⟩)
                (Un.setRow w _ _ _ ⟨id, es, hes, rfl⟩) (fun b hb => by
                  rcases live_add h.gr hG1 hb with h1 | h1
                  · exact .inl h1
                  · left; rw [h1]; exact ⟨id, es, hes, rfl⟩) (fun b arr hb => .inl hb)
              refine ⟨_, _, _, _, hst.put hd (v := .slice G.next 0 (len + ns.length)) (V := .slice (some ⟨(C.io id).blk, 0, none⟩) (len + ns.length) cap) ?_, .inl (key _ _ _ _ hB hA hrun)⟩
              refine VR.slice G.next 0 (len + ns.length) cap _ (Nat.lt_succ_self _) hroom (.inl ⟨?_, ?_⟩)
              · simp [newC]
              · simp [newC]; omega
            · obtain ⟨olds, hol, hocell⟩ := ob_els ho hblk
              rw [hzz] at hol
              have hfo : ∀ k, (Builtin.firstCells z len (.slice (some ⟨(C.io id).blk, 0, none⟩) len cap)).run M.P { w with drawn := k } = .ok olds.toArray { w with drawn := k } := run_first (by rw [hol.len, hlen]) hocell
              have hcl := grownCap_le_maxLen w (len + ns.length) cap e (by simp only [maxA, maxLen] at *; omega)
              have hcg := grownCap_ge w (len + ns.length) cap e
              have hrun := fun ty => app_grow_run (P := M.P) (w := w) t ty e z bytes zv he'.ht he'.hi (some ⟨(C.io id).blk, 0, none⟩) A len cap ns.length c olds news (by rw [hol.len, hlen]) hmz hfo hfirst (by omega) (by simp only [maxA] at hb; omega) (by simp only [maxA, maxLen] at *; omega)
              have hob := ob_concat (M := M) (C := C) (z := z) (cap := grownCap w (len + ns.length) cap e) (b := w.heap.size) (rest := Builtin.zeroCells zv.cells (grownCap w (len + ns.length) cap e - (len + ns.length))) he'.z0 hol hnr (by rw [hlen]; exact hcg) hcl (by rw [size_zeroCells, he'.hzv, hlen])
              have hdel := (h.drew).del id
              obtain ⟨h3, h4⟩ := hdel.new (esz := z) (cap := grownCap w (len + ns.length) cap e) (ty := e) (es := es ++ ns) hob
              refine ⟨_, _, _, _, h3.put hd (v := .slice G.next 0 (len + ns.length)) (V := .slice (some ⟨w.heap.size, 0, none⟩) (len + ns.length) (grownCap w (len + ns.length) cap e)) ?_, .inl (key _ _ _ _ hB hA hrun)⟩
              refine VR.slice G.next 0 (len + ns.length) _ _ (Nat.lt_succ_self _) hcg (.inl ⟨?_, ?_⟩)
              · simp [newC]
              · simp [newC]
          · omega
        · cases hr
  · cases hr
end
end Go.Ai
