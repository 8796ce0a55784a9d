/- What a reading of the arguments says of the values. The law's arguments as data. Written by a program of this claim (gen_rd.py). A reading of plain data is the same in a world that keeps the old blocks. -/
import Derived.Test.YtffliemhdjcflaaC7
import Derived.Test.YtffliemhdjcflaaB2
import Derived.Deep.Slices
import Derived.Deep.Fields
import Derived.ChangeSame
set_option linter.unusedSimpArgs false
set_option linter.unusedVariables false
namespace Go.Ai
open Go.ChangeShapes Go.WideShapes Go.Deep
variable {M : SM} {w : World}
/-- All rows of a world, read only. -/
def rowsC (w : World) : Cx := ⟨0, fun _ => ⟨0, 0, 0⟩, fun b => match w.heap[b]? with | some (.cells arr _ _) => some arr | _ => none⟩
theorem rows_gr (M : SM) (w : World) : GR M (rowsC w) ⟨0, noObj⟩ w := by
  refine ⟨rfl, fun _ _ h => (noob h).elim, fun _ _ _ _ h => (noob h).elim, fun b arr hb => ⟨?_, fun _ _ h => (noob h).elim⟩⟩
  simp only [rowsC] at hb
  split at hb
  · rename_i c t f hc
    injection hb with hb
    subst hb
    exact ⟨t, f, hc⟩
  · cases hb
theorem rows_at {a : Addr} {v : Value} (h : w.cell? a = some v) : a.spot = none ∧ (rowsC w).at a.block a.off = some v := by
  unfold World.cell? at h
  split at h
  · rename_i c t f hc
    split at h
    · cases h
    · rename_i hs
      refine ⟨by simpa using hs, ?_⟩
      simp only [Cx.at, rowsC, hc, Option.bind_some]
      exact h
  · cases h
/-- A type's readings: cells that stand for data. -/
def Reads (M : SM) (w : World) (t : TypeId) {α : Type} (e : α → List AVal) (S : α → Prop) : Prop :=
  ∀ (H : Type) (enc : TypeId × Value → H) (base : Nat) (spare : Nat → Bool) (held : Bool) (fuel : Nat) (cs : List Value) (x : DataW H × List MemPlace), DataW.trod enc M.P w base spare held fuel t cs = some x →
    ∃ a : α, S a ∧ (e a).length = cs.length ∧ ∀ (i : Nat) u v, (e a)[i]? = some u → cs[i]? = some v → CR M (rowsC w) u v
theorem reads_slice {t e : TypeId} {α : Type} {ea : α → List AVal} {Sa : α → Prop} {z : Nat} (ht : M.P.underlying t = some (.slice e)) (hz : M.P.cellsOf e = z) (hz0 : 0 < z) (hw : ∀ a, (ea a).length = z) (hr : Reads M w e ea Sa) :
    Reads M w t (fun l : List α => [.list (l.map ea)]) (fun l => l.length ≤ 9223372036854775807 ∧ ∀ a ∈ l, Sa a) := by
  intro H enc base spare held fuel cs x h
  rcases open_slice ht h with ⟨rfl, _⟩ | ⟨a, len, cap, m, n, D, Pl, rfl, hb, hl, hm, hmm, _, hi⟩
  · refine ⟨[], ⟨by simp, by simp⟩, rfl, fun i u v hu hv => ?_⟩
    cases i with
    | zero =>
      simp at hu hv
      subst hu hv
      have : LiR M (rowsC w) [] 1 0 0 := ⟨Nat.one_pos, by simp, by simp, by simp⟩
      exact ⟨this.list (cap := 0) (Nat.le_refl _) (by simp), rfl⟩
    | succ i => simp at hu
  · have hlm : len ≤ m := by rw [hmm]; split <;> omega
    have hex : ∀ i, i < len → ∃ b : α, Sa b ∧ ∀ (c : Nat), c < z → ∃ v, w.cell? (a.add (i * z + c)) = some v ∧ ∀ u, (ea b)[c]? = some u → CR M (rowsC w) u v := by
      intro i hilt
      obtain ⟨cs', hc, htr⟩ := hi i (by omega)
      rw [hz] at hc
      obtain ⟨b, hb1, hb2, hb3⟩ := hr H enc base spare held n cs' _ htr
      obtain ⟨_, hcl, hat⟩ := World.cells?_some hc
      refine ⟨b, hb1, fun c hcz => ?_⟩
      have hv : cs'[c]? = some (cs'[c]'(by omega)) := List.getElem?_eq_getElem (by omega)
      have := hat c hcz
      rw [add_add, hv] at this
      exact ⟨_, this, fun u hu => hb3 c u _ hu hv⟩
    have hlist : ∀ k, k ≤ len → ∃ l : List α, l.length = k ∧ ∀ i b, l[i]? = some b → Sa b ∧ ∀ (c : Nat), c < z → ∃ v, w.cell? (a.add (i * z + c)) = some v ∧ ∀ u, (ea b)[c]? = some u → CR M (rowsC w) u v := by
      intro k
      induction k with
      | zero => intro _; exact ⟨[], rfl, by simp⟩
      | succ k ih =>
        intro hk
        obtain ⟨l, h1, h2⟩ := ih (by omega)
        obtain ⟨b, hb⟩ := hex k (by omega)
        refine ⟨l ++ [b], by simp [h1], fun i b' hb' => ?_⟩
        by_cases hik : i < l.length
        · rw [List.getElem?_append_left hik] at hb'; exact h2 i b' hb'
        · rw [List.getElem?_append_right (by omega)] at hb'
          have hi0 : i - l.length = 0 := by
            have := (List.getElem?_eq_some_iff.1 hb').1
            simp at this; omega
          rw [hi0] at hb'
          simp at hb'
          subst hb'
          have : i = k := by omega
          subst this
          exact hb
    obtain ⟨l, hlen, hel⟩ := hlist len (Nat.le_refl _)
    have hmax : maxLen = 9223372036854775807 := by decide
    refine ⟨l, ⟨by rw [hlen]; omega, fun b hb => ?_⟩, rfl, fun i u v hu hv => ?_⟩
    · obtain ⟨i, hi⟩ := List.getElem?_of_mem hb
      exact (hel i b hi).1
    · cases i with
      | succ i => simp at hu
      | zero =>
        simp only [List.getElem?_cons_zero, Option.some.injEq] at hu hv
        subst hu hv
        refine ⟨?_, rfl⟩
        have hget : ∀ (i : Nat) (e : List AVal), (l.map ea)[i]? = some e → ∃ b, l[i]? = some b ∧ e = ea b := by
          intro i e he
          rw [List.getElem?_map] at he
          simp only [Option.map_eq_some_iff] at he
          obtain ⟨b, h1, h2⟩ := he
          exact ⟨b, h1, h2.symm⟩
        have hadd : ∀ k v, w.cell? (a.add k) = some v → (rowsC w).at a.block (a.off + k) = some v := by
          intro k v hk
          obtain ⟨h1, h2⟩ := rows_at hk
          unfold Addr.add at h2
          by_cases h0 : k = 0
          · simp [h0] at h2 ⊢; exact h2
          · simp [h0] at h2; exact h2
        have hli : LiR M (rowsC w) (l.map ea) z a.block a.off := by
          refine ⟨hz0, fun e he => ?_, fun i e c he hc => ?_, fun i e c x y he hx hy => ?_⟩
          · obtain ⟨b, _, rfl⟩ := List.mem_map.1 he; exact hw b
          · obtain ⟨b, hb, rfl⟩ := hget i e he
            obtain ⟨v, hv, hcr⟩ := (hel i b hb).2 c hc
            have hu : (ea b)[c]? = some ((ea b)[c]'(by rw [hw]; exact hc)) := List.getElem?_eq_getElem _
            exact ⟨v, hadd _ v hv, (hcr _ hu).one⟩
          · obtain ⟨b, hb, rfl⟩ := hget i e he
            have hc : c < z := by rw [← hw b]; exact (List.getElem?_eq_some_iff.1 hx).1
            obtain ⟨v, hv, hcr⟩ := (hel i b hb).2 c hc
            rw [hadd _ v hv] at hy
            injection hy with hy
            subst hy
            exact (hcr x hx).v
        have := hli.list (A := some a) (cap := cap) (by simp; omega) (fun hne => ?_)
        · simpa [hlen] using this
        · cases hl0 : l with
          | nil => rw [hl0] at hne; simp at hne
          | cons b bs =>
            obtain ⟨v, hv, _⟩ := (hel 0 b (by rw [hl0]; rfl)).2 0 hz0
            have hs := (rows_at hv).1
            obtain ⟨ab, ao, sp⟩ := a
            simp [Addr.add] at hs
            subst hs
            rfl
end Go.Ai
set_option linter.unusedSimpArgs false
set_option linter.unusedVariables false
namespace Go.Ai
open Go.ChangeShapes Go.WideShapes Go.Deep
section
variable {M : SM} {w : World}
end
end Go.Ai
set_option linter.unusedSimpArgs false
set_option linter.unusedVariables false
namespace Go.Ai
open Go.ChangeShapes Go.WideShapes Go.Deep
def flatT (P : Program) : Nat → TypeId → Bool
  | 0, _ => false
  | d + 1, t => match P.underlying t with
    | some .bool => true
    | some (.int _) => true
    | some (.slice e) => P.cellsOf e != 0 && flatT P d e
    | some (.struct fs) => fs.all fun f => flatT P d f.type
    | _ => false
section
variable {w w' : World}
theorem mapM_keep {α β : Type} {f g : α → Option β} : ∀ (l : List α) (ys : List β), l.mapM f = some ys → (∀ x y, f x = some y → y ∈ ys → g x = some y) → l.mapM g = some ys := by
  intro l
  induction l with
  | nil => intro ys h _; simpa using h
  | cons x xs ih =>
    intro ys h hg
    simp only [List.mapM_cons, Option.bind_eq_bind, Option.bind_eq_some_iff, Option.pure_def, Option.some.injEq] at h ⊢
    obtain ⟨y, hy, zs, hzs, rfl⟩ := h
    exact ⟨y, hg x y hy (List.mem_cons_self ..), zs, ih zs hzs (fun a b hab hb => hg a b hab (List.mem_cons_of_mem _ hb)), rfl⟩
variable (hk : ∀ b, b < w.heap.size → w'.heap[b]? = w.heap[b]?)
include hk
theorem cell_keep {a : Addr} {v : Value} (h : w.cell? a = some v) : w'.cell? a = some v := by
  unfold World.cell? at h ⊢
  cases hb : w.heap[a.block]? with
  | none => rw [hb] at h; cases h
  | some o => rw [hk a.block (Array.getElem?_eq_some_iff.1 hb).1, hb]; rw [hb] at h; exact h
theorem cells_keep {base n : Nat} {a : Addr} {cs : List Value} (h : w.cells? base a n = some cs) : w'.cells? 0 a n = some cs := by
  unfold World.cells? at h ⊢
  split at h
  · rw [if_pos (Nat.zero_le _)]
    exact mapM_keep _ _ h (fun x y hx _ => cell_keep hk hx)
  · cases h
theorem trod_keep {H : Type} {enc : TypeId × Value → H} {P : Program} {base : Nat} {held : Bool} {sp : Nat → Bool} : ∀ (d : Nat) (t : TypeId) (fuel : Nat) (cs : List Value) (x : DataW H × List MemPlace), flatT P d t = true →
    DataW.trod enc P w base (fun _ => true) held fuel t cs = some x → (∀ p ∈ x.2, sp p.block = true) → DataW.trod enc P w' 0 sp true fuel t cs = some x := by
  intro d
  induction d with
  | zero => intro t fuel cs x h; cases h
  | succ d ih =>
    intro t fuel cs x hf h hp
    cases fuel with
    | zero => simp [DataW.trod] at h
    | succ n =>
      simp only [flatT] at hf
      cases hu : P.underlying t with
      | none => rw [hu] at hf; cases hf
      | some td =>
        rw [hu] at hf
        cases td <;> simp only [Bool.false_eq_true] at hf
        case bool =>
          obtain ⟨b, rfl, rfl⟩ := DataW.trod_bool hu h
          simp [DataW.trod, hu]
        case int k =>
          obtain ⟨m, rfl, rfl, hw⟩ := DataW.trod_int hu h
          simp [DataW.trod, hu, hw]
        case struct fs =>
          unfold DataW.trod at h ⊢
          rw [hu] at h ⊢
          simp only at h ⊢
          split at h
          · rename_i hl
            rw [if_pos hl]
            simp only [Option.map_eq_some_iff] at h ⊢
            obtain ⟨xs, hxs, rfl⟩ := h
            refine ⟨xs, ?_, rfl⟩
            have hall : ∀ f ∈ fs.toList, flatT P d f.type = true := by
              intro f hf'
              exact (Array.all_eq_true'.1 hf) f (by simpa using hf')
            have key : ∀ (l : List Field) (ys : List (DataW H × List MemPlace)), (∀ f ∈ l, flatT P d f.type = true) → (∀ y ∈ ys, ∀ p ∈ y.2, sp p.block = true) → l.mapM (fun f => DataW.trod enc P w base (fun _ => true) held n f.type ((cs.drop f.offset).take (P.cellsOf f.type))) = some ys →
                l.mapM (fun f => DataW.trod enc P w' 0 sp true n f.type ((cs.drop f.offset).take (P.cellsOf f.type))) = some ys := by
              intro l
              induction l with
              | nil => intro ys _ _ h; simpa using h
              | cons f l ihl =>
                intro ys hfl hys h
                simp only [List.mapM_cons, Option.bind_eq_bind, Option.bind_eq_some_iff, Option.pure_def, Option.some.injEq] at h ⊢
                obtain ⟨y, hy, zs, hzs, rfl⟩ := h
                exact ⟨y, ih f.type n _ y (hfl f (List.mem_cons_self ..)) hy (hys y (List.mem_cons_self ..)), zs, ihl zs (fun g hg => hfl g (List.mem_cons_of_mem _ hg)) (fun z hz => hys z (List.mem_cons_of_mem _ hz)) hzs, rfl⟩
            exact key fs.toList xs hall (fun y hy p hp' => hp p (List.mem_flatMap.2 ⟨y, hy, hp'⟩)) hxs
          · cases h
        case slice e =>
          simp only [Bool.and_eq_true, bne_iff_ne] at hf
          have hE : ∀ (i : Nat) (a : Addr) y, ((w.cells? base (a.add (i * P.cellsOf e)) (P.cellsOf e)).bind (DataW.trod enc P w base (fun _ => true) held n e)) = some y → (∀ p ∈ y.2, sp p.block = true) →
              ((w'.cells? 0 (a.add (i * P.cellsOf e)) (P.cellsOf e)).bind (DataW.trod enc P w' 0 sp true n e)) = some y := by
            intro i a y hy hpy
            simp only [Option.bind_eq_some_iff] at hy ⊢
            obtain ⟨cs', h1, h2⟩ := hy
            exact ⟨cs', cells_keep hk h1, ih e n cs' y hf.2 h2 hpy⟩
          unfold DataW.trod at h ⊢
          rw [hu] at h ⊢
          split at h <;> simp_all only [reduceCtorEq, Option.some.injEq]
          rename_i _ _ e' a len cap heq
          injection heq with heq
          subst heq
          split at h
          rotate_left
          · cases h
          rename_i c
          simp only [if_true, Option.bind_eq_some_iff, Option.map_eq_some_iff] at h
          obtain ⟨elems, h1, rest, h2, rfl⟩ := h
          rw [if_pos ⟨Nat.zero_le _, c.2⟩]
          have hsub : ∀ y ∈ elems ++ rest, ∀ p ∈ y.2, sp p.block = true := fun y hy p hpy => hp p (List.mem_append_right _ (List.mem_flatMap.2 ⟨y, hy, hpy⟩))
          have e1 := mapM_keep _ _ h1 (fun i y hy hm => hE i a y hy (hsub y (List.mem_append_left _ hm)))
          rw [e1]
          simp only [Option.bind_some, Option.map_eq_some_iff]
          refine ⟨rest, ?_, rfl⟩
          by_cases hs : sp a.block = true
          · rw [if_pos hs]
            exact mapM_keep _ _ h2 (fun j y hy hm => hE (len + j) a y hy (hsub y (List.mem_append_right _ hm)))
          · rw [if_neg hs]
            have hr0 : rest = [] := by
              cases rest with
              | nil => rfl
              | cons r rs =>
                exfalso
                apply hs
                have hpos : 0 < (elems.length + (r :: rs).length) * P.cellsOf e := Nat.mul_pos (by simp only [List.length_cons]; omega) (Nat.pos_of_ne_zero hf.1)
                have hm : MemPlace.cell a.block (a.off + 0) ∈ MemPlace.row a ((elems.length + (r :: rs).length) * P.cellsOf e) := by
                  unfold MemPlace.row
                  exact List.mem_map.2 ⟨0, List.mem_range.2 hpos, rfl⟩
                exact hp _ (List.mem_append_left _ hm)
            rw [hr0]
end
end Go.Ai
