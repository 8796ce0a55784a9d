/- What is written out: a value in place of what it leads to. -/
import Derived.Test.YtffliemhdjcflaaAiS11
set_option linter.unusedVariables false
set_option linter.unusedSimpArgs false
namespace Go.Ai
variable {M : SM}

theorem omap_get {α β : Type} {f : α → Option β} : ∀ {xs : List α} {ys : List β}, omap f xs = some ys → ys.length = xs.length ∧ ∀ (i : Nat) x y, xs[i]? = some x → ys[i]? = some y → f x = some y := by
  intro xs
  induction xs with
  | nil => intro ys h; simp only [omap] at h; injection h with h; subst h; simp
  | cons x xs ih =>
    intro ys h
    simp only [omap, Option.bind_eq_some_iff] at h
    obtain ⟨y, hy, ys', hys, h⟩ := h
    injection h with h
    subst h
    obtain ⟨h1, h2⟩ := ih hys
    refine ⟨by simp [h1], fun i a b ha hb => ?_⟩
    cases i with
    | zero => simp at ha hb; rw [← ha, ← hb]; exact hy
    | succ i => simp at ha hb; exact h2 i a b ha hb
theorem omap_back {α β : Type} {f : α → Option β} {xs : List α} {ys : List β} (h : omap f xs = some ys) {i : Nat} {y : β} (hy : ys[i]? = some y) : ∃ x, xs[i]? = some x ∧ f x = some y := by
  obtain ⟨h1, h2⟩ := omap_get h
  have hi : i < xs.length := by rw [← h1]; exact (List.getElem?_eq_some_iff.1 hy).1
  exact ⟨xs[i], List.getElem?_eq_getElem hi, h2 i _ y (List.getElem?_eq_getElem hi) hy⟩

open Classical in
/-- What is known when the heap's rows are read only. -/
noncomputable def frzC (C : Cx) (G : AG) (w : World) : Cx := ⟨C.n, C.io, fun b => if live C G b then (match w.heap[b]? with | some (.cells cur _ _) => some cur | _ => none) else C.im b⟩
theorem frzC_im {C : Cx} {G : AG} {w : World} (h : GR M C G w) {id : Nat} {es : Obj'} {cur : Array Value} {ty : TypeId} {f : Nat × Nat} (hid : G.obj id = some es) (hb : w.heap[(C.io id).blk]? = some (.cells cur ty f)) : (frzC C G w).im (C.io id).blk = some cur := by
  simp only [frzC]
  rw [if_pos ⟨id, es, hid, rfl⟩, hb]
theorem frzC_le {C : Cx} {G : AG} {w : World} (h : GR M C G w) : C.le (frzC C G w) := by
  refine ⟨Nat.le_refl _, fun _ _ => rfl, fun b arr hb => ?_⟩
  simp only [frzC]
  rw [if_neg]; exact hb
  rintro ⟨id, es, hid, e⟩
  exact (h.im b arr hb).2 id es hid e
theorem frzC_at {C : Cx} {G : AG} {w : World} (h : GR M C G w) {id : Nat} {es : Obj'} {cur : Array Value} {ty : TypeId} {f : Nat × Nat} (hid : G.obj id = some es) (hb : w.heap[(C.io id).blk]? = some (.cells cur ty f)) (p : Nat) : (frzC C G w).at (C.io id).blk p = cur[p]? := by
  simp only [Cx.at, frzC_im h hid hb, Option.bind_some]

theorem frz_li {C : Cx} {G : AG} {w : World} (h : GR M C G w) {d : Nat} (ih : ∀ v v' V, frz d G.obj v = some v' → VR M C v V → VR M (frzC C G w) v' V) {id : Nat} {es : Obj'} {es' : Obj'} (hid : G.obj id = some es) (off len : Nat)
    (hes : omap (omap (frz d G.obj)) ((es.drop off).take len) = some es') : LiR M (frzC C G w) es' (C.io id).esz (C.io id).blk (off * (C.io id).esz) := by
  obtain ⟨_, cur, ty, hb, ho⟩ := h.ob id es hid
  have key : ∀ i e', es'[i]? = some e' → ∃ e, es[off + i]? = some e ∧ omap (frz d G.obj) e = some e' := by
    intro i e' he'
    obtain ⟨e, he, hf⟩ := omap_back hes he'
    rw [List.getElem?_take] at he
    split at he
    · rw [List.getElem?_drop] at he; exact ⟨e, he, hf⟩
    · cases he
  have hpos : ∀ i c : Nat, off * (C.io id).esz + (i * (C.io id).esz + c) = (off + i) * (C.io id).esz + c := by intro i c; rw [Nat.add_mul]; omega
  refine ⟨ho.pos, fun e' he' => ?_, fun i e' c he' hc => ?_, fun i e' c x' y he' hx' hy => ?_⟩
  · obtain ⟨i, hi, rfl⟩ := List.getElem_of_mem he'
    obtain ⟨e, he, hf⟩ := key i _ (List.getElem?_eq_getElem hi)
    rw [(omap_get hf).1]
    exact (ho.el _ e he).1
  · obtain ⟨e, he, hf⟩ := key i e' he'
    obtain ⟨h1, h2⟩ := ho.el _ e he
    have hc' : c < e.length := by rw [h1]; exact hc
    obtain ⟨y, hy, hr⟩ := h2.get (List.getElem?_eq_getElem hc')
    exact ⟨y, by rw [frzC_at h hid hb, hpos]; exact hy, hr.one⟩
  · obtain ⟨e, he, hf⟩ := key i e' he'
    obtain ⟨x, hx, hfx⟩ := omap_back hf hx'
    rw [frzC_at h hid hb, hpos] at hy
    exact ih x x' y hfx (((ho.el _ e he).2).at_ c x y hx hy).v

theorem frz_sound {C : Cx} {G : AG} {w : World} (h : GR M C G w) : ∀ (d : Nat) (v v' : AVal) (V : Value), frz d G.obj v = some v' → VR M C v V → VR M (frzC C G w) v' V := by
  intro d
  induction d with
  | zero => intro v v' V hf; simp [frz] at hf
  | succ d ih =>
    intro v v' V hf hv
    have hle := frzC_le h
    have hlist : ∀ (cs cs' : List AVal) (arr : Array Value), omap (frz d G.obj) cs = some cs' → (∀ (i : Nat) x y, cs[i]? = some x → arr[i]? = some y → VR M C x y) → ∀ (i : Nat) x y, cs'[i]? = some x → arr[i]? = some y → VR M (frzC C G w) x y := by
      intro cs cs' arr ho hh i x y hx hy
      obtain ⟨x0, h1, h2⟩ := omap_back ho hx
      exact ih x0 x y h2 (hh i x0 y h1 hy)
    simp only [frz] at hf
    cases hv with
    | nils A =>
      injection hf with hf; subst hf
      have : LiR M (frzC C G w) [] 1 0 0 := ⟨Nat.one_pos, by simp, by simp, by simp⟩
      exact this.list (cap := 0) (Nat.le_refl _) (by simp)
    | slice id off len cap a hlt hl ha =>
      simp only [Option.bind_eq_some_iff] at hf
      obtain ⟨es, hid, hf⟩ := hf
      split at hf
      · rename_i hfit
        simp only [Option.map_eq_some_iff] at hf
        obtain ⟨es', hes, rfl⟩ := hf
        have hli := frz_li h ih hid off len hes
        have hlen : es'.length = len := by rw [(omap_get hes).1]; simp; omega
        rcases ha with ⟨rfl, _⟩ | hc
        · have := hli.list (A := some ⟨(C.io id).blk, off * (C.io id).esz, none⟩) (cap := cap) (by omega) (fun _ => rfl)
          rw [hlen] at this; exact this
        · have h0 : es' = [] := List.length_eq_zero_iff.1 (by omega)
          have := hli.list (A := some a) (cap := cap) (by omega) (fun hne => absurd h0 hne)
          rw [hlen] at this; exact this
      · cases hf
    | ptr id i c hlt =>
      simp only [Option.bind_eq_some_iff, Option.map_eq_some_iff] at hf
      obtain ⟨es, hid, es', hes, rfl⟩ := hf
      have hli := frz_li h ih (es' := es') hid 0 es.length (by simpa using hes)
      have := hli.iptr i c
      simpa using this
    | agg cs arr hl h1 hh =>
      simp only [Option.map_eq_some_iff] at hf
      obtain ⟨cs', hcs, rfl⟩ := hf
      exact .agg cs' arr (by rw [(omap_get hcs).1]; exact hl) h1 (hlist cs cs' arr hcs hh)
    | tuple cs arr hl hh =>
      simp only [Option.map_eq_some_iff] at hf
      obtain ⟨cs', hcs, rfl⟩ := hf
      exact .tuple cs' arr (by rw [(omap_get hcs).1]; exact hl) (hlist cs cs' arr hcs hh)
    | func f k caps args hk hl hh =>
      simp only [Option.map_eq_some_iff] at hf
      obtain ⟨cs', hcs, rfl⟩ := hf
      exact .func f k cs' args hk (by rw [(omap_get hcs).1]; exact hl) (hlist caps cs' args hcs hh)
    | iface tag t v V ht hv =>
      simp only [Option.map_eq_some_iff] at hf
      obtain ⟨v', hv', rfl⟩ := hf
      exact .iface tag t v' V ht (ih v v' V hv' hv)
    | int k n => injection hf with hf; subst hf; exact .int k n
    | bool b => injection hf with hf; subst hf; exact .bool b
    | str b => injection hf with hf; subst hf; exact .str b
    | nilp => injection hf with hf; subst hf; exact .nilp
    | nilf => injection hf with hf; subst hf; exact .nilf
    | nili => injection hf with hf; subst hf; exact .nili
    | list es z b o cap A hz0 hl hA hz hex hv =>
      injection hf with hf; subst hf
      exact (VR.list es z b o cap A hz0 hl hA hz hex hv).mono hle
    | iptr es i c z b o hz0 hz hex hv =>
      injection hf with hf; subst hf
      exact (VR.iptr es i c z b o hz0 hz hex hv).mono hle

/-- What holds of no read only row is the same with fewer of them. -/
theorem noImms_mem : ∀ {cs : List AVal}, noImm.noImms cs = true → ∀ c ∈ cs, noImm c = true := by
  intro cs
  induction cs with
  | nil => simp
  | cons v vs ih =>
    intro h c hc
    simp only [noImm.noImms, Bool.and_eq_true] at h
    rcases List.mem_cons.1 hc with rfl | hc
    · exact h.1
    · exact ih h.2 c hc
theorem VR.noIm {C : Cx} {im' : Nat → Option (Array Value)} {v : AVal} {V : Value} (h : VR M C v V) : noImm v = true → VR M ⟨C.n, C.io, im'⟩ v V := by
  induction h with
  | int k n => exact fun _ => .int k n
  | bool b => exact fun _ => .bool b
  | str s => exact fun _ => .str s
  | nilp => exact fun _ => .nilp
  | ptr id i c h => exact fun _ => VR.ptr (C := ⟨C.n, C.io, im'⟩) id i c h
  | nils a => exact fun _ => .nils a
  | slice id off len cap a h hl ha => exact fun _ => VR.slice (C := ⟨C.n, C.io, im'⟩) id off len cap a h hl ha
  | nilf => exact fun _ => .nilf
  | nili => exact fun _ => .nili
  | agg cs arr hl h1 h ih => exact fun hn => .agg cs arr hl h1 (fun i x y hx hy => ih i x y hx hy (noImms_mem hn x (List.mem_of_getElem? hx)))
  | tuple cs arr hl h ih => exact fun hn => .tuple cs arr hl (fun i x y hx hy => ih i x y hx hy (noImms_mem hn x (List.mem_of_getElem? hx)))
  | list => intro hn; simp [noImm] at hn
  | iptr => intro hn; simp [noImm] at hn
  | func => intro hn; simp [noImm] at hn
  | iface => intro hn; simp [noImm] at hn
end Go.Ai
