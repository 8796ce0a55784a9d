/- A reading of plain data is the same in a world that keeps the old blocks. -/
import Derived.Test.YtffliemhdjcflaaAiR2
set_option linter.unusedSimpArgs false
set_option linter.unusedVariables false
namespace Go.Ai
open Go.ChangeShapes Go.WideShapes Go.Deep
def flatT (P : Program) : Nat → TypeId → Bool
  | 0, _ => false
  | d + 1, t => match P.underlying t with
    | some .bool => true
    | some (.int _) => true
    | some (.slice e) => P.cellsOf e != 0 && flatT P d e
    | some (.struct fs) => fs.all fun f => flatT P d f.type
    | _ => false
section
variable {w w' : World}
theorem mapM_keep {α β : Type} {f g : α → Option β} : ∀ (l : List α) (ys : List β), l.mapM f = some ys → (∀ x y, f x = some y → y ∈ ys → g x = some y) → l.mapM g = some ys := by
  intro l
  induction l with
  | nil => intro ys h _; simpa using h
  | cons x xs ih =>
    intro ys h hg
    simp only [List.mapM_cons, Option.bind_eq_bind, Option.bind_eq_some_iff, Option.pure_def, Option.some.injEq] at h ⊢
    obtain ⟨y, hy, zs, hzs, rfl⟩ := h
    exact ⟨y, hg x y hy (List.mem_cons_self ..), zs, ih zs hzs (fun a b hab hb => hg a b hab (List.mem_cons_of_mem _ hb)), rfl⟩
variable (hk : ∀ b, b < w.heap.size → w'.heap[b]? = w.heap[b]?)
include hk
theorem cell_keep {a : Addr} {v : Value} (h : w.cell? a = some v) : w'.cell? a = some v := by
  unfold World.cell? at h ⊢
  cases hb : w.heap[a.block]? with
  | none => rw [hb] at h; cases h
  | some o => rw [hk a.block (Array.getElem?_eq_some_iff.1 hb).1, hb]; rw [hb] at h; exact h
theorem cells_keep {base n : Nat} {a : Addr} {cs : List Value} (h : w.cells? base a n = some cs) : w'.cells? 0 a n = some cs := by
  unfold World.cells? at h ⊢
  split at h
  · rw [if_pos (Nat.zero_le _)]
    exact mapM_keep _ _ h (fun x y hx _ => cell_keep hk hx)
  · cases h
theorem trod_keep {H : Type} {enc : TypeId × Value → H} {P : Program} {base : Nat} {held : Bool} {sp : Nat → Bool} : ∀ (d : Nat) (t : TypeId) (fuel : Nat) (cs : List Value) (x : DataW H × List MemPlace), flatT P d t = true →
    DataW.trod enc P w base (fun _ => true) held fuel t cs = some x → (∀ p ∈ x.2, sp p.block = true) → DataW.trod enc P w' 0 sp true fuel t cs = some x := by
  intro d
  induction d with
  | zero => intro t fuel cs x h; cases h
  | succ d ih =>
    intro t fuel cs x hf h hp
    cases fuel with
    | zero => simp [DataW.trod] at h
    | succ n =>
      simp only [flatT] at hf
      cases hu : P.underlying t with
      | none => rw [hu] at hf; cases hf
      | some td =>
        rw [hu] at hf
        cases td <;> simp only [Bool.false_eq_true] at hf
        case bool =>
          obtain ⟨b, rfl, rfl⟩ := DataW.trod_bool hu h
          simp [DataW.trod, hu]
        case int k =>
          obtain ⟨m, rfl, rfl, hw⟩ := DataW.trod_int hu h
          simp [DataW.trod, hu, hw]
        case struct fs =>
          unfold DataW.trod at h ⊢
          rw [hu] at h ⊢
          simp only at h ⊢
          split at h
          · rename_i hl
            rw [if_pos hl]
            simp only [Option.map_eq_some_iff] at h ⊢
            obtain ⟨xs, hxs, rfl⟩ := h
            refine ⟨xs, ?_, rfl⟩
            have hall : ∀ f ∈ fs.toList, flatT P d f.type = true := by
              intro f hf'
              exact (Array.all_eq_true'.1 hf) f (by simpa using hf')
            have key : ∀ (l : List Field) (ys : List (DataW H × List MemPlace)), (∀ f ∈ l, flatT P d f.type = true) → (∀ y ∈ ys, ∀ p ∈ y.2, sp p.block = true) → l.mapM (fun f => DataW.trod enc P w base (fun _ => true) held n f.type ((cs.drop f.offset).take (P.cellsOf f.type))) = some ys →
                l.mapM (fun f => DataW.trod enc P w' 0 sp true n f.type ((cs.drop f.offset).take (P.cellsOf f.type))) = some ys := by
              intro l
              induction l with
              | nil => intro ys _ _ h; simpa using h
              | cons f l ihl =>
                intro ys hfl hys h
                simp only [List.mapM_cons, Option.bind_eq_bind, Option.bind_eq_some_iff, Option.pure_def, Option.some.injEq] at h ⊢
                obtain ⟨y, hy, zs, hzs, rfl⟩ := h
                exact ⟨y, ih f.type n _ y (hfl f (List.mem_cons_self ..)) hy (hys y (List.mem_cons_self ..)), zs, ihl zs (fun g hg => hfl g (List.mem_cons_of_mem _ hg)) (fun z hz => hys z (List.mem_cons_of_mem _ hz)) hzs, rfl⟩
            exact key fs.toList xs hall (fun y hy p hp' => hp p (List.mem_flatMap.2 ⟨y, hy, hp'⟩)) hxs
          · cases h
        case slice e =>
          simp only [Bool.and_eq_true, bne_iff_ne] at hf
          have hE : ∀ (i : Nat) (a : Addr) y, ((w.cells? base (a.add (i * P.cellsOf e)) (P.cellsOf e)).bind (DataW.trod enc P w base (fun _ => true) held n e)) = some y → (∀ p ∈ y.2, sp p.block = true) →
              ((w'.cells? 0 (a.add (i * P.cellsOf e)) (P.cellsOf e)).bind (DataW.trod enc P w' 0 sp true n e)) = some y := by
            intro i a y hy hpy
            simp only [Option.bind_eq_some_iff] at hy ⊢
            obtain ⟨cs', h1, h2⟩ := hy
            exact ⟨cs', cells_keep hk h1, ih e n cs' y hf.2 h2 hpy⟩
          unfold DataW.trod at h ⊢
          rw [hu] at h ⊢
          split at h <;> simp_all only [reduceCtorEq, Option.some.injEq]
          rename_i _ _ e' a len cap heq
          injection heq with heq
          subst heq
          split at h
          rotate_left
          · cases h
          rename_i c
          simp only [if_true, Option.bind_eq_some_iff, Option.map_eq_some_iff] at h
          obtain ⟨elems, h1, rest, h2, rfl⟩ := h
          rw [if_pos ⟨Nat.zero_le _, c.2⟩]
          have hsub : ∀ y ∈ elems ++ rest, ∀ p ∈ y.2, sp p.block = true := fun y hy p hpy => hp p (List.mem_append_right _ (List.mem_flatMap.2 ⟨y, hy, hpy⟩))
          have e1 := mapM_keep _ _ h1 (fun i y hy hm => hE i a y hy (hsub y (List.mem_append_left _ hm)))
          rw [e1]
          simp only [Option.bind_some, Option.map_eq_some_iff]
          refine ⟨rest, ?_, rfl⟩
          by_cases hs : sp a.block = true
          · rw [if_pos hs]
            exact mapM_keep _ _ h2 (fun j y hy hm => hE (len + j) a y hy (hsub y (List.mem_append_right _ hm)))
          · rw [if_neg hs]
            have hr0 : rest = [] := by
              cases rest with
              | nil => rfl
              | cons r rs =>
                exfalso
                apply hs
                have hpos : 0 < (elems.length + (r :: rs).length) * P.cellsOf e := Nat.mul_pos (by simp only [List.length_cons]; omega) (Nat.pos_of_ne_zero hf.1)
                have hm : MemPlace.cell a.block (a.off + 0) ∈ MemPlace.row a ((elems.length + (r :: rs).length) * P.cellsOf e) := by
                  unfold MemPlace.row
                  exact List.mem_map.2 ⟨0, List.mem_range.2 hpos, rfl⟩
                exact hp _ (List.mem_append_left _ hm)
            rw [hr0]
end
end Go.Ai
