/- append, copy, literals, stores: what they do to the world. -/
import Derived.Test.YtffliemhdjcflaaAiS7
set_option linter.unusedVariables false
set_option linter.unusedSimpArgs false
namespace Go.Ai
variable {M : SM}

section
variable {P : Program} {w : World}
theorem app_fit (t ty e : TypeId) (z : Nat) (ht : P.underlying t = some (.slice e)) (hz : (P.info? e).map (·.size) = some z) (g n cap : Nat) (cur : Array Value) (et : TypeId) (hg : w.heap[g]? = some (.cells cur et (0, 0)))
    (A : Option Addr) (m c : Nat) (news : List Value) (hl : news.length = m * z) (hf : (Builtin.firstCells z m (.slice A m c)).run P w = .ok news.toArray w) (h1 : ∀ u ∈ news, u.oneCell' = true) (hroom : n + m ≤ cap) (hfit : n * z + news.length ≤ cur.size) :
    (Builtin.append_ #[t, t] ty #[.slice (some ⟨g, 0, none⟩) n cap, .slice A m c]).run P w = .ok (.slice (some ⟨g, 0, none⟩) (n + m) cap) (w.setRow g (cur.toList.take (n * z) ++ news ++ cur.toList.drop (n * z + news.length)).toArray) := by
  obtain ⟨i, hi, rfl⟩ := Option.map_eq_some_iff.1 hz
  have hst := run_storeCells_at P g (n * i.size) et news 0 cur w hg (by simpa using hfit) h1
  simp only [Nat.add_zero] at hst
  simp [Builtin.append_, run_underlying ht, sizeOf, typeInfo, hi, Builtin.lenOf, hroom, hf, Addr.add_lit, hst]
theorem app_none (t ty e : TypeId) (z : Nat) (ht : P.underlying t = some (.slice e)) (hz : (P.info? e).map (·.size) = some z) (B A : Option Addr) (n cap c : Nat) (hn : n ≤ cap) :
    (Builtin.append_ #[t, t] ty #[.slice B n cap, .slice A 0 c]).run P w = .ok (.slice B n cap) w := by
  obtain ⟨i, hi, rfl⟩ := Option.map_eq_some_iff.1 hz
  cases A <;> cases B <;> simp [Builtin.append_, run_underlying ht, sizeOf, typeInfo, hi, Builtin.lenOf, Builtin.firstCells, hn, loadCells, loadCellsFrom, storeCells]
theorem app_grow_run (t ty e : TypeId) (z bytes : Nat) (zv : Value) (ht : P.underlying t = some (.slice e)) (hz : (P.info? e).map (fun i => (i.size, i.bytes, i.zero)) = some (z, bytes, some zv))
    (B A : Option Addr) (n cap m c : Nat) (olds news : List Value) (hlo : olds.length = n * z) (hl : news.length = m * z)
    (hfo : ∀ k, (Builtin.firstCells z n (.slice B n cap)).run P { w with drawn := k } = .ok olds.toArray { w with drawn := k }) (hf : ∀ k, (Builtin.firstCells z m (.slice A m c)).run P { w with drawn := k } = .ok news.toArray { w with drawn := k })
    (hg : cap < n + m) (hb : (n + m) * bytes ≤ 140737488355328) (h63 : n + m ≤ maxLen) :
    (Builtin.append_ #[t, t] ty #[.slice B n cap, .slice A m c]).run P w = .ok (.slice (some ⟨w.heap.size, 0, none⟩) (n + m) (grownCap w (n + m) cap e))
      ({ w with drawn := w.drawn + 1 }.alloc (.cells (olds.toArray ++ news.toArray ++ Builtin.zeroCells zv.cells (grownCap w (n + m) cap e - (n + m))) e)) := by
  obtain ⟨i, hi, hh⟩ := Option.map_eq_some_iff.1 hz
  simp only [Prod.mk.injEq] at hh
  obtain ⟨rfl, rfl, hzv⟩ := hh
  have hm : n + m ≤ 9223372036854775807 := by simp only [maxLen] at h63; omega
  have hn : ¬ (n + m ≤ cap) := by omega
  have h63' : ¬ (9223372036854775807 < ((n : Int) + (m : Int))) := by omega
  have hfit := growslice_fits (bytes := i.bytes) hg hb
  have h48' : ¬ (281474976710656 < Builtin.nextslicecap (n + m) cap * i.bytes) := by omega
  have hf1 : (Builtin.firstCells i.size m (.slice A m c)).run P w.drew = .ok news.toArray w.drew := hf (w.drawn + 1)
  have hf2 : (Builtin.firstCells i.size n (.slice B n cap)).run P w.drew = .ok olds.toArray w.drew := hfo (w.drawn + 1)
  show _ = Result.ok _ (w.drew.alloc _)
  simp [Builtin.append_, run_underlying ht, sizeOf, typeInfo, zeroValue, hi, hzv, Builtin.lenOf, hn, h63', h48', Question.forced, hf1, hf2, newRow, grownCap]
  congr 2
  apply Array.ext'
  simp
end

section
variable {bx : List Nat} {N : Nat} {C0 : Cx} {w0 : World} {L : Nat → Prop} {C C' : Cx} {β : Nat → Nat} {fr : Fr} {G G' : AG} {a : Act} {w w' : World}

/-- Elements one behind the other. -/
structure ElsR (M : SM) (C : Cx) (z : Nat) (es : Obj') (L : List Value) : Prop where
  len : L.length = es.length * z
  el : ∀ i e, es[i]? = some e → e.length = z ∧ CsR M C e L.toArray (i * z)
theorem ElsR.one {C : Cx} {z : Nat} {es : Obj'} {L : List Value} (h : ElsR M C z es L) : ∀ u ∈ L, u.oneCell' = true := by
  intro u hu
  obtain ⟨j, hj, rfl⟩ := List.getElem_of_mem hu
  have hz : 0 < z := by
    rcases Nat.eq_zero_or_pos z with h0 | h0
    · subst h0; rw [h.len] at hj; simp at hj
    · exact h0
  have hlt : j / z < es.length := by rw [h.len] at hj; exact Nat.div_lt_of_lt_mul (by rw [Nat.mul_comm]; exact hj)
  obtain ⟨h1, h2⟩ := h.el (j / z) _ (List.getElem?_eq_getElem hlt)
  have hm : j % z < es[j / z].length := by rw [h1]; exact Nat.mod_lt _ hz
  have hidx : j / z * z + j % z = j := by rw [Nat.mul_comm]; exact Nat.div_add_mod j z
  refine (h2.at_ (j % z) _ _ (List.getElem?_eq_getElem hm) ?_).one
  rw [hidx]
  simp [List.getElem?_eq_getElem hj]
theorem ElsR.mono {C C' : Cx} (hle : C.le C') {z : Nat} {es : Obj'} {L : List Value} (h : ElsR M C z es L) : ElsR M C' z es L := ⟨h.len, fun i e he => ⟨(h.el i e he).1, (h.el i e he).2.mono hle⟩⟩
theorem run_first {P : Program} {w : World} {z m c b p : Nat} {news : List Value} (hl : news.length = m * z) (hc : ∀ j y, news[j]? = some y → w.cell? ⟨b, p + j, none⟩ = some y) :
    ∀ k, (Builtin.firstCells z m (.slice (some ⟨b, p, none⟩) m c)).run P { w with drawn := k } = .ok news.toArray { w with drawn := k } := by
  intro k
  simp only [Builtin.firstCells]
  rw [← hl]
  refine run_loadCells_list (P := P) _ _ news (fun j y hy => ?_)
  rw [Addr.add_lit]
  exact hc j y hy
theorem run_first0 {P : Program} {w : World} {z c : Nat} {A : Option Addr} : ∀ k, (Builtin.firstCells z 0 (.slice A 0 c)).run P { w with drawn := k } = .ok ([] : List Value).toArray { w with drawn := k } := by
  intro k
  cases A <;> simp [Builtin.firstCells, loadCells, loadCellsFrom]
theorem run_firstN {P : Program} {w : World} {z m c b p : Nat} {news : List Value} (hl : news.length = m * z) (hc : ∀ j y, news[j]? = some y → w.cell? ⟨b, p + j, none⟩ = some y) :
    ∀ n, n ≤ m → ∀ k, (Builtin.firstCells z n (.slice (some ⟨b, p, none⟩) m c)).run P { w with drawn := k } = .ok (news.take (n * z)).toArray { w with drawn := k } := by
  intro n hn k
  simp only [Builtin.firstCells]
  have hlen : (news.take (n * z)).length = n * z := by
    rw [List.length_take, hl, Nat.min_eq_left]; exact Nat.mul_le_mul_right _ hn
  have := run_loadCells_list (P := P) { w with drawn := k } ⟨b, p, none⟩ (news.take (n * z)) (fun j y hy => by
    rw [Addr.add_lit]
    rw [List.getElem?_take] at hy
    split at hy
    · exact hc j y hy
    · cases hy)
  rwa [hlen] at this
theorem run_firstN0 {P : Program} {w : World} {z c : Nat} {A : Option Addr} : ∀ n, n ≤ 0 → ∀ k, (Builtin.firstCells z n (.slice A 0 c)).run P { w with drawn := k } = .ok (([] : List Value).take (n * z)).toArray { w with drawn := k } := by
  intro n hn k
  obtain rfl : n = 0 := by omega
  cases A <;> simp [Builtin.firstCells, loadCells, loadCellsFrom]
/-- The cells of so many elements, from a place of a block on. -/
theorem els_of {C : Cx} {z b p : Nat} {es : Obj'} {cur : Array Value} {et : TypeId} {f : Nat × Nat} {w : World} (hb : w.heap[b]? = some (.cells cur et f)) (hfit : p + es.length * z ≤ cur.size) (hel : ∀ i e, es[i]? = some e → e.length = z ∧ CsR M C e cur (p + i * z)) :
    ∃ news : List Value, ElsR M C z es news ∧ ∀ j y, news[j]? = some y → w.cell? ⟨b, p + j, none⟩ = some y := by
  have hget : ∀ j y, ((cur.toList.drop p).take (es.length * z))[j]? = some y → cur[p + j]? = some y := by
    intro j y hy
    simp only [List.getElem?_take] at hy
    split at hy
    · rw [List.getElem?_drop] at hy; rw [← Array.getElem?_toList]; exact hy
    · cases hy
  refine ⟨(cur.toList.drop p).take (es.length * z), ⟨?_, fun i e he => ⟨(hel i e he).1, ?_, fun c x y hx hy => ?_⟩⟩, fun j y hy => ?_⟩
  · simp only [List.length_take, List.length_drop, Array.length_toList]; omega
  · have h1 := (hel i e he).1
    have hi : i < es.length := (List.getElem?_eq_some_iff.1 he).1
    have : (i + 1) * z ≤ es.length * z := Nat.mul_le_mul_right _ hi
    rw [Nat.add_mul] at this
    simp only [List.size_toArray, List.length_take, List.length_drop, Array.length_toList]
    omega
  · refine (hel i e he).2.at_ c x y hx ?_
    rw [Nat.add_assoc]
    exact hget _ y (by simpa using hy)
  · rw [cell_of hb]; exact hget j y hy
/-- What an append or a copy takes from. -/
theorem St.src (h : St M bx N C0 w0 L C β fr G a w) {y : AVal} {Y : Value} (hy : VR M C y Y) {ns : Obj'} {z : Nat} (hz : 0 < z)
    (hns : srcOf G.obj y = some ns) (hw : ∀ e ∈ ns, e.length = z) :
    ∃ A c news, Y = .slice A ns.length c ∧ ns.length ≤ c ∧ ElsR M C z ns news ∧ ∀ n, n ≤ ns.length → ∀ k, (Builtin.firstCells z n (.slice A ns.length c)).run M.P { w with drawn := k } = .ok (news.take (n * z)).toArray { w with drawn := k } := by
  cases y <;> simp only [srcOf] at hns <;> try (cases hns; done)
  case nils =>
    injection hns with hns
    subst hns
    obtain ⟨A, rfl⟩ := vr_nils hy
    exact ⟨A, 0, [], rfl, Nat.le_refl _, ⟨by simp, by simp⟩, run_firstN0⟩
  case slice id off len =>
    simp only [Option.bind_eq_some_iff] at hns
    obtain ⟨es, hes, hns⟩ := hns
    split at hns
    · rename_i hle
      injection hns with hns
      subst hns
      obtain ⟨cap, A, rfl, hid, hlc, hA⟩ := vr_slice hy
      have hlen : ((es.drop off).take len).length = len := by simp; omega
      rw [hlen]
      by_cases h0 : len = 0
      · subst h0
        refine ⟨some A, cap, [], rfl, Nat.zero_le _, ⟨by simp, by simp⟩, run_firstN0⟩
      · obtain ⟨hlt, cur, ty, hb, ho⟩ := h.gr.ob id es hes
        have hoff : off < es.length := by omega
        have hzz : (C.io id).esz = z := by
          have h1 := (ho.el off _ (List.getElem?_eq_getElem hoff)).1
          rw [← h1]
          apply hw
          rw [List.mem_iff_getElem?]
          exact ⟨0, by rw [List.getElem?_take, if_pos (by omega), List.getElem?_drop]; simp [List.getElem?_eq_getElem hoff]⟩
        have hfit : off * z + len * z ≤ cur.size := by
          rw [ho.size, hzz, ← Nat.add_mul]
          exact Nat.mul_le_mul_right _ (Nat.le_trans hle ho.fit)
        obtain ⟨news, hn1, hn2⟩ := els_of (M := M) (C := C) (z := z) (p := off * z) (es := (es.drop off).take len) hb (by rw [hlen]; exact hfit) (fun i e he => by
          have he2 : es[off + i]? = some e := by
            simp only [List.getElem?_take] at he
            split at he
            · rwa [List.getElem?_drop] at he
            · cases he
          have := ho.el (off + i) e he2
          rw [hzz, Nat.add_mul] at this
          exact this)
        rcases hA with ⟨rfl, hcap⟩ | hcap
        · have hl := hn1.len
          rw [hlen] at hl
          rw [hzz]
          exact ⟨_, cap, news, rfl, hlc, hn1, run_firstN hl hn2⟩
        · omega
    · cases hns
  case list es =>
    injection hns with hns
    subst hns
    obtain ⟨z', b, p, cap, A, rfl, hle, hA, hli⟩ := vr_list hy
    by_cases h0 : es = []
    · subst h0
      exact ⟨A, cap, [], rfl, hle, ⟨by simp, by simp⟩, run_firstN0⟩
    · have hzz : z' = z := by
        obtain ⟨e0, he0⟩ := List.exists_mem_of_ne_nil es h0
        rw [← hli.hz e0 he0, hw e0 he0]
      subst hzz
      have hpos : 0 < es.length := List.length_pos_iff.2 h0
      obtain ⟨y, hy, _⟩ := hli.hex 0 es[0] 0 (List.getElem?_eq_getElem hpos) hz
      simp only [Cx.at, Option.bind_eq_some_iff] at hy
      obtain ⟨arr, harr, _⟩ := hy
      obtain ⟨⟨ty, f, hb⟩, _⟩ := h.gr.im b arr harr
      have hat : ∀ i c, i < es.length → c < z' → ∃ y, arr[p + (i * z' + c)]? = some y := fun i c hi hc => by
        obtain ⟨y, hy, _⟩ := hli.hex i es[i] c (List.getElem?_eq_getElem hi) hc
        simp only [Cx.at, harr, Option.bind_some] at hy
        exact ⟨y, hy⟩
      have hfit : p + es.length * z' ≤ arr.size := by
        obtain ⟨y, hy⟩ := hat (es.length - 1) (z' - 1) (by omega) (by omega)
        have h1 := (Array.getElem?_eq_some_iff.1 hy).1
        have h2 : es.length * z' = (es.length - 1) * z' + z' := by
          have : es.length = (es.length - 1) + 1 := by omega
          conv => lhs; rw [this, Nat.add_mul, Nat.one_mul]
        omega
      obtain ⟨news, hn1, hn2⟩ := els_of (M := M) (C := C) (z := z') (p := p) (es := es) hb hfit (fun i e he => by
        have hel := hli.hz e (List.mem_of_getElem? he)
        have hi := (List.getElem?_eq_some_iff.1 he).1
        refine ⟨hel, ?_, fun c x y hx hy => ?_⟩
        · have : (i + 1) * z' ≤ es.length * z' := Nat.mul_le_mul_right _ hi
          rw [Nat.add_mul] at this
          omega
        · have hc : c < z' := by rw [← hel]; exact (List.getElem?_eq_some_iff.1 hx).1
          obtain ⟨y', hy', h1⟩ := hli.hex i e c he hc
          have hy2 : C.at b (p + (i * z' + c)) = some y := by simp only [Cx.at, harr, Option.bind_some]; rw [← Nat.add_assoc]; exact hy
          rw [hy2] at hy'; injection hy' with hy'; subst hy'
          exact ⟨hli.hv i e c x y he hx hy2, h1⟩)
      rw [hA h0]
      exact ⟨_, cap, news, rfl, hle, hn1, run_firstN hn1.len hn2⟩
end
end Go.Ai
