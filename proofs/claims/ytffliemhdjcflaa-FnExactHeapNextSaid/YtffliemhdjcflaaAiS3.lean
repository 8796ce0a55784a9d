/- Operations that answer a value and leave the world alone: what each comes to. -/
import Derived.Test.YtffliemhdjcflaaAiS2
set_option linter.unusedVariables false
set_option linter.unusedSimpArgs false
namespace Go.Ai
variable {M : SM}

theorem splice_length (vs : List AVal) : ∀ (xs : List AVal) (c : Nat), (splice xs c vs).length = xs.length := by
  induction vs with
  | nil =>
    intro xs
    induction xs with
    | nil => intro c; cases c <;> simp [splice]
    | cons x xs ih => intro c; cases c with
      | zero => simp [splice]
      | succ c => simp [splice, ih c]
  | cons v vs ihv =>
    intro xs
    induction xs with
    | nil => intro c; cases c <;> simp [splice]
    | cons x xs ih => intro c; cases c with
      | zero => simp [splice, ihv]
      | succ c => simp [splice, ih c]
theorem splice_at (vs : List AVal) : ∀ (xs : List AVal) (c i : Nat), i < xs.length → (splice xs c vs)[i]? = if c ≤ i ∧ i < c + vs.length then vs[i - c]? else xs[i]? := by
  induction vs with
  | nil =>
    intro xs
    induction xs with
    | nil => intro c i h; simp at h
    | cons x xs ih =>
      intro c i h
      cases c with
      | zero => simp [splice]
      | succ c =>
        cases i with
        | zero => simp [splice]
        | succ i =>
          have := ih c i (by simpa using h)
          simp only [splice, List.getElem?_cons_succ, this, List.length_nil, Nat.add_zero]
          rw [if_neg (by omega), if_neg (by omega)]
  | cons v vs ihv =>
    intro xs
    induction xs with
    | nil => intro c i h; simp at h
    | cons x xs ih =>
      intro c i h
      cases c with
      | zero =>
        cases i with
        | zero => simp [splice]
        | succ i =>
          have := ihv xs 0 i (by simpa using h)
          simp only [splice, List.getElem?_cons_succ, this, List.length_cons, Nat.zero_add]
          by_cases hi : i < vs.length
          · rw [if_pos (by omega), if_pos (by omega)]; simp
          · rw [if_neg (by omega), if_neg (by omega)]
      | succ c =>
        cases i with
        | zero =>
          simp only [splice, List.getElem?_cons_zero]
          rw [if_neg (by omega)]
        | succ i =>
          have := ih c i (by simpa using h)
          simp only [splice, List.getElem?_cons_succ, this, List.length_cons]
          by_cases hi : c ≤ i ∧ i < c + (vs.length + 1)
          · rw [if_pos hi, if_pos (by omega)]
            congr 1; omega
          · rw [if_neg hi, if_neg (by omega)]
theorem foldl_set (off : Nat) : ∀ (vs : List Value) (k : Nat) (cells : Array Value), ((vs.zipIdx k).foldl (fun cs x => cs.setIfInBounds (off + x.2) x.1) cells).size = cells.size ∧
    ∀ i, ((vs.zipIdx k).foldl (fun cs x => cs.setIfInBounds (off + x.2) x.1) cells)[i]? = if off + k ≤ i ∧ i < off + k + vs.length ∧ i < cells.size then vs[i - (off + k)]? else cells[i]? := by
  intro vs
  induction vs with
  | nil => intro k cells; simp; intro i h1 h2 h3; omega
  | cons v vs ih =>
    intro k cells
    obtain ⟨h1, h2⟩ := ih (k + 1) (cells.setIfInBounds (off + k) v)
    simp only [List.zipIdx_cons, List.foldl_cons]
    refine ⟨by rw [h1]; simp, fun i => ?_⟩
    rw [h2 i]
    simp only [Array.size_setIfInBounds, List.length_cons]
    by_cases hi : i = off + k
    · subst hi
      rw [if_neg (by omega)]
      by_cases hs : off + k < cells.size
      · rw [if_pos (by omega)]
        simp [Array.getElem?_setIfInBounds, hs]
      · rw [if_neg (by omega)]
        simp [Array.getElem?_setIfInBounds, hs]
    · by_cases hc : off + (k + 1) ≤ i ∧ i < off + (k + 1) + vs.length ∧ i < cells.size
      · rw [if_pos hc, if_pos (by omega)]
        have : i - (off + k) = (i - (off + (k + 1))) + 1 := by omega
        rw [this, List.getElem?_cons_succ]
      · rw [if_neg hc, if_neg (by omega)]
        simp [Array.getElem?_setIfInBounds, Ne.symm hi]

/-- Cells of a value. -/
theorem cellsR {C : Cx} {v : AVal} {V : Value} {cs : List AVal} (h : VR M C v V) (hc : cellsOf v = some cs) : CsR M C cs V.cells 0 ∧ cs.length = V.cells.size := by
  have one : ∀ (x : AVal) (X : Value), VR M C x X → X.oneCell' = true → X.cells = #[X] → cellsOf x = some [x] → cs = [x] → CsR M C cs X.cells 0 ∧ cs.length = X.cells.size := by
    rintro x X hx h1 h2 h3 rfl
    rw [h2]
    refine ⟨⟨by simp, fun c x' y h4 h5 => ?_⟩, by simp⟩
    have hc0 : c = 0 := by have := (List.getElem?_eq_some_iff.1 h4).1; simpa using this
    subst hc0
    simp at h4 h5
    subst h4 h5
    exact ⟨hx, h1⟩
  cases h <;> simp only [cellsOf] at hc <;> first | (cases hc; done) | skip
  case agg cs' arr hl h1 h =>
    injection hc with hc
    subst hc
    refine ⟨⟨by simp [Value.cells, hl], fun c x y h4 h5 => ⟨h c x y h4 (by simpa [Value.cells] using h5), h1 y ?_⟩⟩, hl⟩
    simp only [Value.cells, Nat.zero_add] at h5
    exact Array.mem_of_getElem? h5
  all_goals
    injection hc with hc
    refine one _ _ ?_ rfl rfl rfl hc.symm
  case int => exact .int ..
  case bool => exact .bool ..
  case str => exact .str ..
  case nilp => exact .nilp
  case ptr => exact .ptr _ _ _ ‹_›
  case nils => exact .nils _
  case slice => exact .slice _ _ _ _ _ ‹_› ‹_› ‹_›
  case list => exact .list _ _ _ _ _ _ ‹_› ‹_› ‹_› ‹_› ‹_› ‹_›
  case iptr => exact .iptr _ _ _ _ _ _ ‹_› ‹_› ‹_› ‹_›
  case func => exact .func _ _ _ _ ‹_› ‹_› ‹_›
  case nilf => exact .nilf
  case iface => exact .iface _ _ _ _ ‹_› ‹_›
  case nili => exact .nili

/-- An aggregate's cells. -/
structure ArR (M : SM) (C : Cx) (cs : List AVal) (arr : Array Value) : Prop where
  len : cs.length = arr.size
  at_ : ∀ (i : Nat) x y, cs[i]? = some x → arr[i]? = some y → CR M C x y
theorem ArR.vr {C : Cx} {cs : List AVal} {arr : Array Value} (h : ArR M C cs arr) : VR M C (.agg cs) (.agg arr) := by
  refine .agg cs arr h.len (fun y hy => ?_) fun i x y hx hy => (h.at_ i x y hx hy).v
  obtain ⟨i, hi, rfl⟩ := Array.getElem_of_mem hy
  have hi2 : i < cs.length := by rw [h.len]; exact hi
  exact (h.at_ i _ _ (List.getElem?_eq_getElem hi2) (Array.getElem?_eq_getElem hi)).one
theorem ArR.of_vr {C : Cx} {cs : List AVal} {V : Value} (h : VR M C (.agg cs) V) : ∃ arr, V = .agg arr ∧ ArR M C cs arr := by
  cases h with
  | agg cs arr hl h1 h => exact ⟨arr, rfl, hl, fun i x y hx hy => ⟨h i x y hx hy, h1 y (Array.mem_of_getElem? hy)⟩⟩
theorem ArR.splice {C : Cx} {cs vs : List AVal} {arr : Array Value} {V : Value} {off : Nat} (h : ArR M C cs arr) (hv : CsR M C vs V.cells 0) (hl : vs.length = V.cells.size) (hf : off + vs.length ≤ cs.length) :
    ArR M C (splice cs off vs) (V.cells.zipIdx.foldl (fun cs (c, j) => cs.setIfInBounds (off + j) c) arr) := by
  have hfold := foldl_set off V.cells.toList 0 arr
  have heq : V.cells.zipIdx.foldl (fun cs (c, j) => cs.setIfInBounds (off + j) c) arr = (V.cells.toList.zipIdx 0).foldl (fun cs x => cs.setIfInBounds (off + x.2) x.1) arr := by
    rw [← Array.foldl_toList, Array.toList_zipIdx]
  rw [heq]
  refine ⟨by rw [splice_length, hfold.1]; exact h.len, fun i x y hx hy => ?_⟩
  rw [hfold.2 i] at hy
  have hi : i < cs.length := by have := (List.getElem?_eq_some_iff.1 hx).1; rwa [splice_length] at this
  rw [splice_at vs cs off i hi] at hx
  simp only [Array.length_toList, Nat.add_zero] at hy
  by_cases hc : off ≤ i ∧ i < off + vs.length
  · rw [if_pos hc] at hx
    rw [if_pos ⟨hc.1, by rw [← hl]; exact hc.2, by rw [← h.len]; exact hi⟩] at hy
    refine hv.at_ (i - off) x y hx ?_
    rw [Nat.zero_add]; rwa [Array.getElem?_toList] at hy
  · rw [if_neg hc] at hx
    rw [if_neg (fun hh => hc ⟨hh.1, by rw [hl]; exact hh.2.1⟩)] at hy
    exact h.at_ i x y hx hy
end Go.Ai
