/- The law's arguments as data. Written by a program of this claim (gen_rd.py). -/
import Derived.Test.YtffliemhdjcflaaAiR1
set_option linter.unusedSimpArgs false
set_option linter.unusedVariables false
namespace Go.Ai
open Go.ChangeShapes Go.WideShapes Go.Deep
def stB (P : Program) (t : TypeId) (ts : List TypeId) : Bool := match P.underlying t with
  | some (.struct fs) => fs.toList.map (·.type) == ts && fs.toList.zipIdx.all (fun p => p.1.offset == p.2 && P.cellsOf p.1.type == 1) && P.cellsOf t == ts.length
  | _ => false
section
variable {M : SM} {w : World}
theorem stB_ok {P : Program} {t : TypeId} {ts : List TypeId} (h : stB P t ts = true) : ∃ fs, P.underlying t = some (.struct fs) ∧ P.cellsOf t = ts.length ∧ fs.size = ts.length ∧ ∀ (i : Nat) ti, ts[i]? = some ti → ∃ f, fs[i]? = some f ∧ f.type = ti ∧ f.offset = i ∧ P.cellsOf f.type = 1 := by
  unfold stB at h
  split at h
  · rename_i fs hu
    simp only [Bool.and_eq_true, beq_iff_eq, List.all_eq_true] at h
    obtain ⟨⟨h1, h2⟩, h3⟩ := h
    refine ⟨fs, hu, h3, by rw [← h1]; simp, fun i ti hi => ?_⟩
    rw [← h1, List.getElem?_map] at hi
    simp only [Option.map_eq_some_iff] at hi
    obtain ⟨f, hf, rfl⟩ := hi
    have := h2 (f, i) (List.mem_of_getElem? (i := i) (by rw [List.getElem?_zipIdx, hf]; simp))
    exact ⟨f, by simpa using hf, rfl, this.1, this.2⟩
  · cases h
theorem st_field {t : TypeId} {ts : List TypeId} (hst : stB M.P t ts = true) {H : Type} {enc : TypeId × Value → H} {base : Nat} {spare : Nat → Bool} {held : Bool} {fuel : Nat} {cs : List Value} {x : DataW H × List MemPlace}
    (h : DataW.trod enc M.P w base spare held fuel t cs = some x) : cs.length = ts.length ∧ ∀ (i : Nat) ti, ts[i]? = some ti → ∀ {α : Type} {e : α → List AVal} {S : α → Prop}, Reads M w ti e S → (∀ a, (e a).length = 1) →
      ∃ a : α, S a ∧ ∃ v, cs[i]? = some v ∧ ∀ u, (e a)[0]? = some u → CR M (rowsC w) u v := by
  obtain ⟨fs, hu, hc, hsz, hf⟩ := stB_ok hst
  obtain ⟨xs, n, _, _, hl, hxl, hg⟩ := DataW.trod_struct hu h
  refine ⟨by rw [hl, hc], fun i ti hi α e S hr h1 => ?_⟩
  obtain ⟨f, hf1, rfl, hf3, hf4⟩ := hf i ti hi
  have hilt : i < cs.length := by rw [hl, hc]; exact (List.getElem?_eq_some_iff.1 hi).1
  have hx := hg i f hf1
  rw [hf3, hf4] at hx
  have hone : (cs.drop i).take 1 = [cs[i]] := by rw [List.drop_eq_getElem_cons hilt]; rfl
  rw [hone] at hx
  have hxi : xs[i]? = some (xs[i]'(by rw [hxl, hsz]; exact (List.getElem?_eq_some_iff.1 hi).1)) := List.getElem?_eq_getElem _
  rw [hxi] at hx
  obtain ⟨a, ha, _, hb⟩ := hr H enc base spare held n _ _ hx
  exact ⟨a, ha, cs[i], List.getElem?_eq_getElem hilt, fun u hu => hb 0 u _ hu rfl⟩
theorem reads_Op {t t0 t1 : TypeId} (hst : stB M.P t [t0, t1] = true) (r0 : Reads M w t0 ((fun n : Int => [vi n])) (fun _ => True)) (r1 : Reads M w t1 ((fun n : Int => [vi n])) (fun _ => True)) : Reads M w t eOp (fun _ => True) := by
  intro H enc base spare held fuel cs x h
  obtain ⟨hl, hf⟩ := st_field (M := M) (w := w) hst h
  obtain ⟨a0, s0, v0, e0, c0⟩ := hf 0 t0 rfl r0 (fun _ => rfl)
  obtain ⟨a1, s1, v1, e1, c1⟩ := hf 1 t1 rfl r1 (fun _ => rfl)
  refine ⟨⟨a0, a1⟩, trivial, by rw [hl]; rfl, fun i u v hu hv => ?_⟩
  match i, hu, hv with
  | 0, hu, hv =>
    rw [e0] at hv
    injection hv with hv
    subst hv
    exact c0 u hu
  | 1, hu, hv =>
    rw [e1] at hv
    injection hv with hv
    subst hv
    exact c1 u hu
  | k + 2, hu, hv => simp [eOp] at hu
theorem reads_Val {t t0 t1 : TypeId} (hst : stB M.P t [t0, t1] = true) (r0 : Reads M w t0 ((fun n : Int => [vi n])) (fun _ => True)) (r1 : Reads M w t1 ((fun n : Int => [vi n])) (fun _ => True)) : Reads M w t eVal (fun _ => True) := by
  intro H enc base spare held fuel cs x h
  obtain ⟨hl, hf⟩ := st_field (M := M) (w := w) hst h
  obtain ⟨a0, s0, v0, e0, c0⟩ := hf 0 t0 rfl r0 (fun _ => rfl)
  obtain ⟨a1, s1, v1, e1, c1⟩ := hf 1 t1 rfl r1 (fun _ => rfl)
  refine ⟨⟨a0, a1⟩, trivial, by rw [hl]; rfl, fun i u v hu hv => ?_⟩
  match i, hu, hv with
  | 0, hu, hv =>
    rw [e0] at hv
    injection hv with hv
    subst hv
    exact c0 u hu
  | 1, hu, hv =>
    rw [e1] at hv
    injection hv with hv
    subst hv
    exact c1 u hu
  | k + 2, hu, hv => simp [eVal] at hu
theorem reads_Method {t t0 t1 t2 : TypeId} (hst : stB M.P t [t0, t1, t2] = true) (r0 : Reads M w t0 ((fun n : Int => [vi n])) (fun _ => True)) (r1 : Reads M w t1 ((fun n : Int => [vi n])) (fun _ => True)) (r2 : Reads M w t2 ((fun l : List GOp => [.list (l.map eOp)])) (fun l => l.length ≤ 9223372036854775807 ∧ ∀ a ∈ l, (fun _ => True) a)) : Reads M w t eMethod (fun m => m.ops.length ≤ 9223372036854775807) := by
  intro H enc base spare held fuel cs x h
  obtain ⟨hl, hf⟩ := st_field (M := M) (w := w) hst h
  obtain ⟨a0, s0, v0, e0, c0⟩ := hf 0 t0 rfl r0 (fun _ => rfl)
  obtain ⟨a1, s1, v1, e1, c1⟩ := hf 1 t1 rfl r1 (fun _ => rfl)
  obtain ⟨a2, s2, v2, e2, c2⟩ := hf 2 t2 rfl r2 (fun _ => rfl)
  refine ⟨⟨a0, a1, a2⟩, s2.1, by rw [hl]; rfl, fun i u v hu hv => ?_⟩
  match i, hu, hv with
  | 0, hu, hv =>
    rw [e0] at hv
    injection hv with hv
    subst hv
    exact c0 u hu
  | 1, hu, hv =>
    rw [e1] at hv
    injection hv with hv
    subst hv
    exact c1 u hu
  | 2, hu, hv =>
    rw [e2] at hv
    injection hv with hv
    subst hv
    exact c2 u hu
  | k + 3, hu, hv => simp [eMethod] at hu
theorem reads_Call {t t0 t1 t2 t3 t4 t5 : TypeId} (hst : stB M.P t [t0, t1, t2, t3, t4, t5] = true) (r0 : Reads M w t0 ((fun n : Int => [vi n])) (fun _ => True)) (r1 : Reads M w t1 ((fun n : Int => [vi n])) (fun _ => True)) (r2 : Reads M w t2 ((fun l : List GVal => [.list (l.map eVal)])) (fun l => l.length ≤ 9223372036854775807 ∧ ∀ a ∈ l, (fun _ => True) a)) (r3 : Reads M w t3 ((fun l : List GVal => [.list (l.map eVal)])) (fun l => l.length ≤ 9223372036854775807 ∧ ∀ a ∈ l, (fun _ => True) a)) (r4 : Reads M w t4 ((fun n : Int => [vi n])) (fun _ => True)) (r5 : Reads M w t5 ((fun b : Bool => [.bool b])) (fun _ => True)) : Reads M w t eCall (fun c => c.temps.length ≤ 9223372036854775807 ∧ c.stack.length ≤ 9223372036854775807) := by
  intro H enc base spare held fuel cs x h
  obtain ⟨hl, hf⟩ := st_field (M := M) (w := w) hst h
  obtain ⟨a0, s0, v0, e0, c0⟩ := hf 0 t0 rfl r0 (fun _ => rfl)
  obtain ⟨a1, s1, v1, e1, c1⟩ := hf 1 t1 rfl r1 (fun _ => rfl)
  obtain ⟨a2, s2, v2, e2, c2⟩ := hf 2 t2 rfl r2 (fun _ => rfl)
  obtain ⟨a3, s3, v3, e3, c3⟩ := hf 3 t3 rfl r3 (fun _ => rfl)
  obtain ⟨a4, s4, v4, e4, c4⟩ := hf 4 t4 rfl r4 (fun _ => rfl)
  obtain ⟨a5, s5, v5, e5, c5⟩ := hf 5 t5 rfl r5 (fun _ => rfl)
  refine ⟨⟨a0, a1, a2, a3, a4, a5⟩, ⟨s2.1, s3.1⟩, by rw [hl]; rfl, fun i u v hu hv => ?_⟩
  match i, hu, hv with
  | 0, hu, hv =>
    rw [e0] at hv
    injection hv with hv
    subst hv
    exact c0 u hu
  | 1, hu, hv =>
    rw [e1] at hv
    injection hv with hv
    subst hv
    exact c1 u hu
  | 2, hu, hv =>
    rw [e2] at hv
    injection hv with hv
    subst hv
    exact c2 u hu
  | 3, hu, hv =>
    rw [e3] at hv
    injection hv with hv
    subst hv
    exact c3 u hu
  | 4, hu, hv =>
    rw [e4] at hv
    injection hv with hv
    subst hv
    exact c4 u hu
  | 5, hu, hv =>
    rw [e5] at hv
    injection hv with hv
    subst hv
    exact c5 u hu
  | k + 6, hu, hv => simp [eCall] at hu
theorem reads_Heap {t t0 t1 t2 t3 t4 : TypeId} (hst : stB M.P t [t0, t1, t2, t3, t4] = true) (r0 : Reads M w t0 ((fun l : List GCall => [.list (l.map eCall)])) (fun l => l.length ≤ 9223372036854775807 ∧ ∀ a ∈ l, (fun c : GCall => c.temps.length ≤ 9223372036854775807 ∧ c.stack.length ≤ 9223372036854775807) a)) (r1 : Reads M w t1 ((fun n : Int => [vi n])) (fun _ => True)) (r2 : Reads M w t2 ((fun n : Int => [vi n])) (fun _ => True)) (r3 : Reads M w t3 ((fun l : List GVal => [.list (l.map eVal)])) (fun l => l.length ≤ 9223372036854775807 ∧ ∀ a ∈ l, (fun _ => True) a)) (r4 : Reads M w t4 ((fun n : Int => [vi n])) (fun _ => True)) : Reads M w t eHeap (fun h => h.calls.length ≤ 9223372036854775807 ∧ (∀ c ∈ h.calls, c.temps.length ≤ 9223372036854775807 ∧ c.stack.length ≤ 9223372036854775807) ∧ h.said.length ≤ 9223372036854775807) := by
  intro H enc base spare held fuel cs x h
  obtain ⟨hl, hf⟩ := st_field (M := M) (w := w) hst h
  obtain ⟨a0, s0, v0, e0, c0⟩ := hf 0 t0 rfl r0 (fun _ => rfl)
  obtain ⟨a1, s1, v1, e1, c1⟩ := hf 1 t1 rfl r1 (fun _ => rfl)
  obtain ⟨a2, s2, v2, e2, c2⟩ := hf 2 t2 rfl r2 (fun _ => rfl)
  obtain ⟨a3, s3, v3, e3, c3⟩ := hf 3 t3 rfl r3 (fun _ => rfl)
  obtain ⟨a4, s4, v4, e4, c4⟩ := hf 4 t4 rfl r4 (fun _ => rfl)
  refine ⟨⟨a0, a1, a2, a3, a4⟩, ⟨s0.1, s0.2, s3.1⟩, by rw [hl]; rfl, fun i u v hu hv => ?_⟩
  match i, hu, hv with
  | 0, hu, hv =>
    rw [e0] at hv
    injection hv with hv
    subst hv
    exact c0 u hu
  | 1, hu, hv =>
    rw [e1] at hv
    injection hv with hv
    subst hv
    exact c1 u hu
  | 2, hu, hv =>
    rw [e2] at hv
    injection hv with hv
    subst hv
    exact c2 u hu
  | 3, hu, hv =>
    rw [e3] at hv
    injection hv with hv
    subst hv
    exact c3 u hu
  | 4, hu, hv =>
    rw [e4] at hv
    injection hv with hv
    subst hv
    exact c4 u hu
  | k + 5, hu, hv => simp [eHeap] at hu
end
end Go.Ai
