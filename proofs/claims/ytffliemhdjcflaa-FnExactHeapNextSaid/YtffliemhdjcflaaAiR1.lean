/- What a reading of the arguments says of the values. -/
import Derived.Test.YtffliemhdjcflaaAiT
import Derived.Test.YtffliemhdjcflaaAiD
import Derived.Deep.Slices
import Derived.Deep.Fields
import Derived.ChangeSame
set_option linter.unusedSimpArgs false
set_option linter.unusedVariables false
namespace Go.Ai
open Go.ChangeShapes Go.WideShapes Go.Deep
variable {M : SM} {w : World}
/-- All rows of a world, read only. -/
def rowsC (w : World) : Cx := ⟨0, fun _ => ⟨0, 0, 0⟩, fun b => match w.heap[b]? with | some (.cells arr _ _) => some arr | _ => none⟩
theorem rows_gr (M : SM) (w : World) : GR M (rowsC w) ⟨0, noObj⟩ w := by
  refine ⟨rfl, fun _ _ h => (noob h).elim, fun _ _ _ _ h => (noob h).elim, fun b arr hb => ⟨?_, fun _ _ h => (noob h).elim⟩⟩
  simp only [rowsC] at hb
  split at hb
  · rename_i c t f hc
    injection hb with hb
    subst hb
    exact ⟨t, f, hc⟩
  · cases hb
theorem rows_at {a : Addr} {v : Value} (h : w.cell? a = some v) : a.spot = none ∧ (rowsC w).at a.block a.off = some v := by
  unfold World.cell? at h
  split at h
  · rename_i c t f hc
    split at h
    · cases h
    · rename_i hs
      refine ⟨by simpa using hs, ?_⟩
      simp only [Cx.at, rowsC, hc, Option.bind_some]
      exact h
  · cases h
/-- A type's readings: cells that stand for data. -/
def Reads (M : SM) (w : World) (t : TypeId) {α : Type} (e : α → List AVal) (S : α → Prop) : Prop :=
  ∀ (H : Type) (enc : TypeId × Value → H) (base : Nat) (spare : Nat → Bool) (held : Bool) (fuel : Nat) (cs : List Value) (x : DataW H × List MemPlace), DataW.trod enc M.P w base spare held fuel t cs = some x →
    ∃ a : α, S a ∧ (e a).length = cs.length ∧ ∀ (i : Nat) u v, (e a)[i]? = some u → cs[i]? = some v → CR M (rowsC w) u v
theorem reads_int {t : TypeId} (ht : M.P.underlying t = some (.int .i64)) : Reads M w t (fun n : Int => [vi n]) (fun _ => True) := by
  intro H enc base spare held fuel cs x h
  obtain ⟨n, rfl, _, _⟩ := DataW.trod_int ht h
  refine ⟨n, trivial, rfl, fun i u v hu hv => ?_⟩
  cases i with
  | zero => simp at hu hv; subst hu hv; exact ⟨.int .i64 n, rfl⟩
  | succ i => simp at hu
theorem reads_bool {t : TypeId} (ht : M.P.underlying t = some .bool) : Reads M w t (fun b : Bool => [.bool b]) (fun _ => True) := by
  intro H enc base spare held fuel cs x h
  obtain ⟨b, rfl, _⟩ := DataW.trod_bool ht h
  refine ⟨b, trivial, rfl, fun i u v hu hv => ?_⟩
  cases i with
  | zero => simp at hu hv; subst hu hv; exact ⟨.bool b, rfl⟩
  | succ i => simp at hu
theorem reads_slice {t e : TypeId} {α : Type} {ea : α → List AVal} {Sa : α → Prop} {z : Nat} (ht : M.P.underlying t = some (.slice e)) (hz : M.P.cellsOf e = z) (hz0 : 0 < z) (hw : ∀ a, (ea a).length = z) (hr : Reads M w e ea Sa) :
    Reads M w t (fun l : List α => [.list (l.map ea)]) (fun l => l.length ≤ 9223372036854775807 ∧ ∀ a ∈ l, Sa a) := by
  intro H enc base spare held fuel cs x h
  rcases open_slice ht h with ⟨rfl, _⟩ | ⟨a, len, cap, m, n, D, Pl, rfl, hb, hl, hm, hmm, _, hi⟩
  · refine ⟨[], ⟨by simp, by simp⟩, rfl, fun i u v hu hv => ?_⟩
    cases i with
    | zero =>
      simp at hu hv
      subst hu hv
      have : LiR M (rowsC w) [] 1 0 0 := ⟨Nat.one_pos, by simp, by simp, by simp⟩
      exact ⟨this.list (cap := 0) (Nat.le_refl _) (by simp), rfl⟩
    | succ i => simp at hu
  · have hlm : len ≤ m := by rw [hmm]; split <;> omega
    have hex : ∀ i, i < len → ∃ b : α, Sa b ∧ ∀ (c : Nat), c < z → ∃ v, w.cell? (a.add (i * z + c)) = some v ∧ ∀ u, (ea b)[c]? = some u → CR M (rowsC w) u v := by
      intro i hilt
      obtain ⟨cs', hc, htr⟩ := hi i (by omega)
      rw [hz] at hc
      obtain ⟨b, hb1, hb2, hb3⟩ := hr H enc base spare held n cs' _ htr
      obtain ⟨_, hcl, hat⟩ := World.cells?_some hc
      refine ⟨b, hb1, fun c hcz => ?_⟩
      have hv : cs'[c]? = some (cs'[c]'(by omega)) := List.getElem?_eq_getElem (by omega)
      have := hat c hcz
      rw [add_add, hv] at this
      exact ⟨_, this, fun u hu => hb3 c u _ hu hv⟩
    have hlist : ∀ k, k ≤ len → ∃ l : List α, l.length = k ∧ ∀ i b, l[i]? = some b → Sa b ∧ ∀ (c : Nat), c < z → ∃ v, w.cell? (a.add (i * z + c)) = some v ∧ ∀ u, (ea b)[c]? = some u → CR M (rowsC w) u v := by
      intro k
      induction k with
      | zero => intro _; exact ⟨[], rfl, by simp⟩
      | succ k ih =>
        intro hk
        obtain ⟨l, h1, h2⟩ := ih (by omega)
        obtain ⟨b, hb⟩ := hex k (by omega)
        refine ⟨l ++ [b], by simp [h1], fun i b' hb' => ?_⟩
        by_cases hik : i < l.length
        · rw [List.getElem?_append_left hik] at hb'; exact h2 i b' hb'
        · rw [List.getElem?_append_right (by omega)] at hb'
          have hi0 : i - l.length = 0 := by
            have := (List.getElem?_eq_some_iff.1 hb').1
            simp at this; omega
          rw [hi0] at hb'
          simp at hb'
          subst hb'
          have : i = k := by omega
          subst this
          exact hb
    obtain ⟨l, hlen, hel⟩ := hlist len (Nat.le_refl _)
    have hmax : maxLen = 9223372036854775807 := by decide
    refine ⟨l, ⟨by rw [hlen]; omega, fun b hb => ?_⟩, rfl, fun i u v hu hv => ?_⟩
    · obtain ⟨i, hi⟩ := List.getElem?_of_mem hb
      exact (hel i b hi).1
    · cases i with
      | succ i => simp at hu
      | zero =>
        simp only [List.getElem?_cons_zero, Option.some.injEq] at hu hv
        subst hu hv
        refine ⟨?_, rfl⟩
        have hget : ∀ (i : Nat) (e : List AVal), (l.map ea)[i]? = some e → ∃ b, l[i]? = some b ∧ e = ea b := by
          intro i e he
          rw [List.getElem?_map] at he
          simp only [Option.map_eq_some_iff] at he
          obtain ⟨b, h1, h2⟩ := he
          exact ⟨b, h1, h2.symm⟩
        have hadd : ∀ k v, w.cell? (a.add k) = some v → (rowsC w).at a.block (a.off + k) = some v := by
          intro k v hk
          obtain ⟨h1, h2⟩ := rows_at hk
          unfold Addr.add at h2
          by_cases h0 : k = 0
          · simp [h0] at h2 ⊢; exact h2
          · simp [h0] at h2; exact h2
        have hli : LiR M (rowsC w) (l.map ea) z a.block a.off := by
          refine ⟨hz0, fun e he => ?_, fun i e c he hc => ?_, fun i e c x y he hx hy => ?_⟩
          · obtain ⟨b, _, rfl⟩ := List.mem_map.1 he; exact hw b
          · obtain ⟨b, hb, rfl⟩ := hget i e he
            obtain ⟨v, hv, hcr⟩ := (hel i b hb).2 c hc
            have hu : (ea b)[c]? = some ((ea b)[c]'(by rw [hw]; exact hc)) := List.getElem?_eq_getElem _
            exact ⟨v, hadd _ v hv, (hcr _ hu).one⟩
          · obtain ⟨b, hb, rfl⟩ := hget i e he
            have hc : c < z := by rw [← hw b]; exact (List.getElem?_eq_some_iff.1 hx).1
            obtain ⟨v, hv, hcr⟩ := (hel i b hb).2 c hc
            rw [hadd _ v hv] at hy
            injection hy with hy
            subst hy
            exact (hcr x hx).v
        have := hli.list (A := some a) (cap := cap) (by simp; omega) (fun hne => ?_)
        · simpa [hlen] using this
        · cases hl0 : l with
          | nil => rw [hl0] at hne; simp at hne
          | cons b bs =>
            obtain ⟨v, hv, _⟩ := (hel 0 b (by rw [hl0]; rfl)).2 0 hz0
            have hs := (rows_at hv).1
            obtain ⟨ab, ao, sp⟩ := a
            simp [Addr.add] at hs
            subst hs
            rfl
end Go.Ai
