/- Operations that answer a value and leave the world alone. -/
import Derived.Test.YtffliemhdjcflaaAiS1
set_option linter.unusedVariables false
set_option linter.unusedSimpArgs false
namespace Go.Ai
variable {M : SM}

/-- What an operand comes to. -/
def EvR (M : SM) (bx : List Nat) (C : Cx) (β : Nat → Nat) (fr : Fr) (v : AVal) (V : Value) : Prop :=
  match v with
  | .undef => True
  | .pptr d c => V = .pointer (some ⟨β d, c, none⟩) ∧ d ∈ bx ∧ fr d ≠ .undef
  | .pbox _ => False
  | v => VR M C v V
inductive OpR (M : SM) : Opd → Operand → Prop
  | t (n) : OpR M (.t n) (.tmp n)
  | c (v V) (h : ∀ C, VR M C v V) : OpR M (.c v) (.const V)
  | f (f k) (h : M.fm f = some k) : OpR M (.c (.func f [])) (.func k)

theorem evR_of_VR {bx : List Nat} {C : Cx} {β : Nat → Nat} {fr : Fr} {v : AVal} {V : Value} (h : VR M C v V) : EvR M bx C β fr v V := by
  cases h <;> first | exact .int .. | exact .bool .. | exact .str .. | exact .nilp | exact .ptr _ _ _ ‹_› | exact .nils _ | exact .nilf | exact .nili | skip
  · exact .slice _ _ _ _ _ ‹_› ‹_› ‹_›
  · exact .list _ _ _ _ _ _ ‹_› ‹_› ‹_› ‹_› ‹_› ‹_›
  · exact .iptr _ _ _ _ _ _ ‹_› ‹_› ‹_› ‹_›
  · exact .func _ _ _ _ ‹_› ‹_› ‹_›
  · exact .iface _ _ _ _ ‹_› ‹_›
  · exact .agg _ _ ‹_› ‹_› ‹_›
  · exact .tuple _ _ ‹_› ‹_›
theorem gv_some {v u : AVal} (h : gv v = some u) : v = u ∧ (∀ d c, u ≠ .pptr d c) ∧ (∀ cs, u ≠ .pbox cs) ∧ u ≠ .undef := by
  cases v <;> simp only [gv] at h <;> first | (cases h; done) | (injection h with h; subst h; exact ⟨rfl, by simp, by simp, by simp⟩)
theorem VR_of_EvR {bx : List Nat} {C : Cx} {β : Nat → Nat} {fr : Fr} {v : AVal} {V : Value} (h : EvR M bx C β fr v V) (h1 : ∀ d c, v ≠ .pptr d c) (h2 : ∀ cs, v ≠ .pbox cs) (h3 : v ≠ .undef) : VR M C v V := by
  cases v <;> first | exact h | (exact absurd rfl (h1 _ _)) | exact absurd rfl (h2 _) | exact absurd rfl h3

theorem vr_ptr {C : Cx} {id i c : Nat} {V : Value} (h : VR M C (.ptr id i c) V) : id < C.n ∧ V = .pointer (some ⟨(C.io id).blk, i * (C.io id).esz + c, none⟩) := by cases h; exact ⟨‹_›, rfl⟩
theorem vr_slice {C : Cx} {id off len : Nat} {V : Value} (h : VR M C (.slice id off len) V) : ∃ cap A, V = .slice (some A) len cap ∧ id < C.n ∧ len ≤ cap ∧ ((A = ⟨(C.io id).blk, off * (C.io id).esz, none⟩ ∧ off + cap = (C.io id).cap) ∨ cap = 0) := by
  cases h; exact ⟨_, _, rfl, ‹_›, ‹_›, ‹_›⟩
theorem vr_nils {C : Cx} {V : Value} (h : VR M C .nils V) : ∃ A, V = .slice A 0 0 := by cases h; exact ⟨_, rfl⟩
/-- What a read only list's cells are. -/
structure LiR (M : SM) (C : Cx) (es : Obj') (z b o : Nat) : Prop where
  z0 : 0 < z
  hz : ∀ e ∈ es, e.length = z
  hex : ∀ i e c, es[i]? = some e → c < z → ∃ y, C.at b (o + (i * z + c)) = some y ∧ y.oneCell' = true
  hv : ∀ i e c x y, es[i]? = some e → e[c]? = some x → C.at b (o + (i * z + c)) = some y → VR M C x y
theorem vr_list {C : Cx} {es : Obj'} {V : Value} (h : VR M C (.list es) V) : ∃ z b o cap A, V = .slice A es.length cap ∧ es.length ≤ cap ∧ (es ≠ [] → A = some ⟨b, o, none⟩) ∧ LiR M C es z b o := by
  cases h; exact ⟨_, _, _, _, _, rfl, ‹_›, ‹_›, ‹_›, ‹_›, ‹_›, ‹_›⟩
theorem LiR.list {C : Cx} {es : Obj'} {z b o cap : Nat} {A : Option Addr} (h : LiR M C es z b o) (hl : es.length ≤ cap) (hA : es ≠ [] → A = some ⟨b, o, none⟩) : VR M C (.list es) (.slice A es.length cap) :=
  .list es z b o cap A h.z0 hl hA h.hz h.hex h.hv
theorem vr_iptr {C : Cx} {es : Obj'} {i c : Nat} {V : Value} (h : VR M C (.iptr es i c) V) : ∃ z b o, V = .pointer (some ⟨b, o + (i * z + c), none⟩) ∧ LiR M C es z b o := by
  cases h; exact ⟨_, _, _, rfl, ‹_›, ‹_›, ‹_›, ‹_›⟩
theorem LiR.iptr {C : Cx} {es : Obj'} {z b o : Nat} (h : LiR M C es z b o) (i c : Nat) : VR M C (.iptr es i c) (.pointer (some ⟨b, o + (i * z + c), none⟩)) := .iptr es i c z b o h.z0 h.hz h.hex h.hv
theorem vr_func {C : Cx} {f : Nat} {caps : List AVal} {V : Value} (h : VR M C (.func f caps) V) : ∃ k args, V = .func (.func k) #[] args ∧ M.fm f = some k ∧ caps.length = args.size ∧ ∀ (i : Nat) x y, caps[i]? = some x → args[i]? = some y → VR M C x y := by
  cases h; exact ⟨_, _, rfl, ‹_›, ‹_›, ‹_›⟩
theorem vr_nilf {C : Cx} {V : Value} (h : VR M C .nilf V) : V = .nilFunc := by cases h; rfl
theorem vr_iface {C : Cx} {tag : Nat} {v : AVal} {V : Value} (h : VR M C (.iface tag v) V) : ∃ t W, V = .iface t W ∧ M.tm tag = some t ∧ VR M C v W := by cases h; exact ⟨_, _, rfl, ‹_›, ‹_›⟩
theorem vr_tuple {C : Cx} {cs : List AVal} {V : Value} (h : VR M C (.tuple cs) V) : ∃ arr, V = .tuple arr ∧ cs.length = arr.size ∧ ∀ (i : Nat) x y, cs[i]? = some x → arr[i]? = some y → VR M C x y := by cases h; exact ⟨_, rfl, ‹_›, ‹_›⟩
theorem vr_str {C : Cx} {b : ByteArray} {V : Value} (h : VR M C (.str b) V) : V = .string b := by cases h; rfl
theorem LiR.sub {C : Cx} {es : Obj'} {z b o : Nat} (h : LiR M C es z b o) (l n : Nat) : LiR M C ((es.drop l).take n) z b (o + l * z) := by
  have key : ∀ (i : Nat) (e : List AVal), ((es.drop l).take n)[i]? = some e → es[l + i]? = some e := by
    intro i e he
    simp only [List.getElem?_take] at he
    split at he
    · rwa [List.getElem?_drop] at he
    · cases he
  have ho : ∀ i c : Nat, o + l * z + (i * z + c) = o + ((l + i) * z + c) := by intro i c; rw [Nat.add_mul]; omega
  refine ⟨h.z0, fun e he => h.hz e (List.mem_of_mem_drop (List.mem_of_mem_take he)), fun i e c he hc => ?_, fun i e c x y he hx hy => ?_⟩
  · rw [ho]; exact h.hex _ e c (key i e he) hc
  · rw [ho] at hy; exact h.hv _ e c x y (key i e he) hx hy
section
variable {bx : List Nat} {N : Nat} {C0 : Cx} {w0 : World} {L : Nat → Prop} {C : Cx} {β : Nat → Nat} {fr : Fr} {G : AG} {a : Act} {w : World}
theorem St.ev (h : St M bx N C0 w0 L C β fr G a w) {x : Opd} {X : Operand} (hx : OpR M x X) : EvR M bx C β fr (x.ev fr) (a.eval X) := by
  cases hx with
  | t n =>
    have hs := h.slot n
    show EvR M bx C β fr (pv n (fr n)) (a.tmps.getD n undef)
    cases hv : fr n <;> rw [hv] at hs <;> simp only [pv] <;> try exact hs
    · exact ⟨hs, (h.pp n _ _ hv).1, (h.pp n _ _ hv).2⟩
    · rename_i cs
      exact ⟨hs, (h.box n cs hv).1, by rw [hv]; simp⟩
  | c v V hv => exact evR_of_VR (hv C)
  | f f k hf => exact .func f k [] #[] hf rfl (by simp)
theorem St.gev (h : St M bx N C0 w0 L C β fr G a w) {x : Opd} {X : Operand} (hx : OpR M x X) {v : AVal} (hv : x.gev fr = some v) : VR M C v (a.eval X) := by
  have h1 := h.ev hx
  obtain ⟨h2, h3, h4, h5⟩ := gv_some hv
  rw [h2] at h1
  exact VR_of_EvR h1 h3 h4 h5
/-- A value is put into a slot. -/
theorem St.put (h : St M bx N C0 w0 L C β fr G a w) {d : Option Nat} (hd : ∀ t, d = some t → t < N ∧ t ∉ bx) {v : AVal} {V : Value} (hv : EvR M bx C β fr v V) :
    St M bx N C0 w0 L C β (put fr d v) G (a.put d V) w := by
  cases d with
  | none => exact h
  | some d =>
    obtain ⟨hdN, hdb⟩ := hd d rfl
    have hnb : ∀ cs, v ≠ .pbox cs := by rintro cs rfl; exact hv
    have hfr : ∀ t, t ≠ d → (Ai.put fr (some d) v) t = fr t := fun t ht => by simp only [Ai.put, upd]; rw [if_neg ht]
    have hfd : (Ai.put fr (some d) v) d = v := by simp [Ai.put, upd]
    refine ⟨h.le, h.un, h.gr, h.mine, by simpa [Act.put] using h.size, h.defers, fun t => ?_, fun t cs ht => ?_, fun t t' cs cs' ht ht' hne => ?_, fun t e c ht => ?_, h.ims⟩
    · by_cases ht : t = d
      · subst ht
        rw [hfd]
        have hg : (a.put (some t) V).tmps.getD t undef = V := by simp [Act.put, Array.getElem?_setIfInBounds, h.size, hdN]
        rw [hg]
        cases v <;> first | trivial | exact hv.1 | exact hv | exact hv.elim
      · rw [hfr t ht]
        have hg : (a.put (some d) V).tmps.getD t undef = a.tmps.getD t undef := by simp [Act.put, Array.getElem?_setIfInBounds, Ne.symm ht]
        rw [hg]
        exact h.slot t
    · have hne : t ≠ d := by rintro rfl; rw [hfd] at ht; exact hnb cs ht
      rw [hfr t hne] at ht
      exact h.box t cs ht
    · have h1 : t ≠ d := by rintro rfl; rw [hfd] at ht; exact hnb cs ht
      have h2 : t' ≠ d := by rintro rfl; rw [hfd] at ht'; exact hnb cs' ht'
      rw [hfr t h1] at ht; rw [hfr t' h2] at ht'
      exact h.apart t t' cs cs' ht ht' hne
    · have key : e ∈ bx ∧ fr e ≠ .undef := by
        by_cases ht2 : t = d
        · subst ht2
          rw [hfd] at ht
          subst ht
          exact ⟨hv.2.1, hv.2.2⟩
        · rw [hfr t ht2] at ht
          exact h.pp t e c ht
      refine ⟨key.1, ?_⟩
      rw [hfr e (fun e' => hdb (e' ▸ key.1))]
      exact key.2
end

/-! ## runs of single operations -/
section
variable {P : Program} {w : World}
def aggD (d : TypeDesc) : Bool := match d with
  | .struct _ | .array _ _ => true
  | _ => false
theorem run_isAgg {t : TypeId} {d : TypeDesc} (h : P.underlying t = some d) (w : World) : (isAgg t).run P w = .ok (aggD d) w := by
  simp only [isAgg, Sem.run_bind, run_underlying h, Result.andThen_ok]
  cases d <;> rfl
theorem run_sizeOf {t : TypeId} {n : Nat} (h : (P.info? t).map (·.size) = some n) (w : World) : (sizeOf t).run P w = .ok n w := by
  obtain ⟨i, hi, rfl⟩ := Option.map_eq_some_iff.1 h
  simp [sizeOf, typeInfo, hi]
theorem cell_of {b p : Nat} {cur : Array Value} {ty : TypeId} {f : Nat × Nat} (h : w.heap[b]? = some (.cells cur ty f)) : w.cell? ⟨b, p, none⟩ = cur[p]? := by simp [World.cell?, h]
/-- How a load of a type reads: one cell, or n. -/
def LdT (P : Program) (k : Option Nat) (t : TypeId) : Prop :=
  match k with
  | none => ∃ d, P.underlying t = some d ∧ (aggD d) = false
  | some n => (∃ d, P.underlying t = some d ∧ (aggD d) = true) ∧ (P.info? t).map (·.size) = some n
theorem run_loadVar {k : Option Nat} {t : TypeId} (ht : LdT P k t) {C : Cx} {e : List AVal} {c : Nat} {v : AVal} (hv : ldv k e c = some v) {b p : Nat} {cur : Array Value} {ty : TypeId} {f : Nat × Nat}
    (hb : w.heap[b]? = some (.cells cur ty f)) (hc : CsR M C e cur p) : ∃ V, (loadVar t ⟨b, p + c, none⟩).run P w = .ok V w ∧ VR M C v V := by
  cases k with
  | none =>
    obtain ⟨d, hd, ha⟩ := ht
    obtain ⟨y, hy, hr⟩ := hc.get (show e[c]? = some v from hv)
    refine ⟨y, ?_, hr.v⟩
    simp only [loadVar, Sem.run_bind, run_isAgg hd, Result.andThen_ok, ha]
    simp [run_load, cell_of hb, hy]
  | some n =>
    obtain ⟨⟨d, hd, ha⟩, hs⟩ := ht
    simp only [ldv] at hv
    split at hv
    · rename_i hle
      injection hv with hv
      subst hv
      let ys : List Value := (cur.toList.drop (p + c)).take n
      have hlen : ys.length = n := by simp only [ys, List.length_take, List.length_drop, Array.length_toList]; have := hc.fit; omega
      have hys : ∀ j y, ys[j]? = some y → cur[p + c + j]? = some y := by
        intro j y hy
        simp only [ys, List.getElem?_take] at hy
        split at hy
        · rw [List.getElem?_drop] at hy
          rw [← Array.getElem?_toList]; exact hy
        · cases hy
      have hl : (loadCells ⟨b, p + c, none⟩ n).run P w = .ok ys.toArray w := by
        have := run_loadCells_list (P := P) w ⟨b, p + c, none⟩ ys (fun j y hy => by rw [Addr.add_lit, cell_of hb]; exact hys j y hy)
        rwa [hlen] at this
      have hcr : ∀ (j : Nat) x y, ((e.drop c).take n)[j]? = some x → ys[j]? = some y → CR M C x y := by
        intro j x y hx hy
        simp only [List.getElem?_take] at hx
        split at hx
        · rw [List.getElem?_drop] at hx
          exact hc.at_ (c + j) x y hx (by rw [← Nat.add_assoc]; exact hys j y hy)
        · cases hx
      refine ⟨.agg ys.toArray, ?_, .agg _ _ ?_ ?_ ?_⟩
      · simp only [loadVar, Sem.run_bind, run_isAgg hd, Result.andThen_ok, ha, if_true, run_sizeOf hs, hl, Sem.run_pure]
      · simp only [List.length_take, List.length_drop, List.size_toArray, hlen]; omega
      · intro y hy
        obtain ⟨j, hj, rfl⟩ := List.getElem_of_mem (show y ∈ ys by simpa using hy)
        have hj2 : j < ((e.drop c).take n).length := by simp only [List.length_take, List.length_drop]; omega
        exact (hcr j _ _ (List.getElem?_eq_getElem hj2) (List.getElem?_eq_getElem hj)).one
      · intro j x y hx hy
        exact (hcr j x y hx (by simpa using hy)).v
    · cases hv
end
end Go.Ai
