/- Marks: what the laws write into lists, and find again. What the laws write into lists. Written by a program of this claim (gen_mark.py). What is found again of what was written. Written by a program of this claim (gen_mark.py). -/
import Derived.Test.YtbbnjbichjhmoaaGreatB4
set_option linter.unusedSimpArgs false
set_option linter.unusedVariables false
namespace Go.Ai
variable {mt : Nat → Nat → Option Nat}
section
variable {α : Type}
def mkL (mk : Int → α → α) (cnt : α → Nat) : Int → List α → List α
  | _, [] => []
  | k, a :: as => mk k a :: mkL mk cnt (k + cnt a) as
def cntL (cnt : α → Nat) : List α → Nat
  | [] => 0
  | a :: as => cnt a + cntL cnt as
variable {mk : Int → α → α} {cnt : α → Nat}
theorem mkL_len : ∀ (l : List α) (k : Int), (mkL mk cnt k l).length = l.length := by
  intro l
  induction l with
  | nil => intro k; rfl
  | cons a as ih => intro k; simp [mkL, ih]
theorem mkL_get : ∀ (l : List α) (k : Int) (i : Nat) (a : α), l[i]? = some a → (mkL mk cnt k l)[i]? = some (mk (k + cntL cnt (l.take i)) a) := by
  intro l
  induction l with
  | nil => intro k i a h; simp at h
  | cons b bs ih =>
    intro k i a h
    cases i with
    | zero => simp at h; subst h; simp [mkL, cntL]
    | succ i =>
      have := ih (k + cnt b) i a (by simpa using h)
      simp only [mkL, List.getElem?_cons_succ, this, List.take_succ_cons, cntL]
      congr 2; omega
theorem cntL_take : ∀ (l : List α) (i : Nat) (a : α), l[i]? = some a → cntL cnt (l.take (i + 1)) = cntL cnt (l.take i) + cnt a := by
  intro l
  induction l with
  | nil => intro i a h; simp at h
  | cons b bs ih =>
    intro i a h
    cases i with
    | zero => simp at h; subst h; simp [cntL]
    | succ i => simp only [List.take_succ_cons, cntL, ih i a (by simpa using h)]; omega
theorem cntL_le : ∀ (l : List α) (i : Nat), cntL cnt (l.take i) ≤ cntL cnt l := by
  intro l
  induction l with
  | nil => intro i; simp [cntL]
  | cons b bs ih =>
    intro i
    cases i with
    | zero => simp [cntL]
    | succ i => simp only [List.take_succ_cons, cntL]; have := ih i; omega
/-- The first i are marked. -/
def mix (mk : Int → α → α) (cnt : α → Nat) (k : Int) (l : List α) (i : Nat) : List α := (mkL mk cnt k l).take i ++ l.drop i
theorem mix_len (k : Int) (l : List α) (i : Nat) (hi : i ≤ l.length) : (mix mk cnt k l i).length = l.length := by
  have := mkL_len (mk := mk) (cnt := cnt) l k
  simp [mix]; omega
theorem mix_get {k : Int} {l : List α} {i : Nat} {a : α} (h : l[i]? = some a) : (mix mk cnt k l i)[i]? = some a := by
  have hi := (List.getElem?_eq_some_iff.1 h).1
  have := mkL_len (mk := mk) (cnt := cnt) l k
  unfold mix
  rw [List.getElem?_append_right (by simp; omega)]
  simp only [List.length_take, List.getElem?_drop]
  rw [← h]; congr 1; omega
theorem mix_succ {k : Int} {l : List α} {i : Nat} {a : α} (h : l[i]? = some a) : mix mk cnt k l (i + 1) = (mix mk cnt k l i).set i (mk (k + cntL cnt (l.take i)) a) := by
  have hi := (List.getElem?_eq_some_iff.1 h).1
  have hlen := mkL_len (mk := mk) (cnt := cnt) l k
  have hg := mkL_get (mk := mk) (cnt := cnt) l k i a h
  refine List.ext_getElem? (fun t => ?_)
  rw [List.getElem?_set, mix_len k l i (by omega)]
  unfold mix
  by_cases ht : i = t
  · subst ht
    rw [if_pos rfl, if_pos hi, List.getElem?_append_left (by simp; omega), List.getElem?_take, if_pos (by omega), hg]
  · rw [if_neg ht]
    by_cases h2 : t < i
    · rw [List.getElem?_append_left (by simp; omega), List.getElem?_append_left (by simp; omega), List.getElem?_take, List.getElem?_take, if_pos (by omega), if_pos h2]
    · rw [List.getElem?_append_right (by simp; omega), List.getElem?_append_right (by simp; omega)]
      simp only [List.length_take, List.getElem?_drop]
      congr 1; omega
theorem mix_zero (k : Int) (l : List α) : mix mk cnt k l 0 = l := by simp [mix]
theorem mix_full (k : Int) (l : List α) : mix mk cnt k l l.length = mkL mk cnt k l := by
  have := mkL_len (mk := mk) (cnt := cnt) l k
  simp [mix, ← this]
end
theorem pre_c {p q : List Nat} {i c c' : Nat} (h : p ++ [i, c] <+: q) (h' : p ++ [i, c'] <+: q) : c = c' := by
  obtain ⟨s, rfl⟩ := h
  obtain ⟨t, ht⟩ := h'
  simp at ht
  exact ht.1.symm
theorem pre_i {p q : List Nat} {i k c : Nat} (h : p ++ [k] <+: q) (h' : p ++ [i, c] <+: q) : k = i := by
  obtain ⟨s, rfl⟩ := h
  obtain ⟨t, ht⟩ := h'
  simp at ht
  exact ht.1.symm
theorem not_pre2 {p : List Nat} {i c : Nat} : ¬ p ++ [i, c] <+: p := by
  intro h
  have := h.length_le
  simp at this
  omega
theorem callBy_whole {call : CallF} {f : Nat} {as : List AVal} {G : AG} : callBy call .whole f as G = call f as G := rfl
theorem updO_same {g : Heap'} {id : Nat} {X : Option Obj'} : updO g id X id = X := by simp [updO]
theorem updO_ne {g : Heap'} {id j : Nat} {X : Option Obj'} (h : j ≠ id) : updO g id X j = g j := by simp [updO, h]
theorem idx_row {H : Heap'} {es : Obj'} {row : List AVal} {id i n z : Nat} {k : IntKind} (hH : H id = some (es.set i row)) (hi : i < es.length) (hl : row.length = z) (h0 : i < n) : idxV z (.slice id 0 n) (.int k (i : Int)) H = some (.ptr id i 0) := by
  rw [idx_slice (es := es.set i row) (e := row) (by omega) (by omega) hH (by simp [hi]) hl]
  simp
theorem st_row {es : Obj'} {row row2 vs : List AVal} {i c n : Nat} (hi : i < es.length) (h : vs.length = n ∧ c + n ≤ row.length) (h2 : splice row c vs = row2) : stH n i c vs (some (es.set i row)) = some (es.set i row2) := by
  rw [stH_ok (n := n) (e := row) (by simp [hi]) h, h2]
  simp
theorem set_self {es : Obj'} {i : Nat} {row : List AVal} (h : es[i]? = some row) : es.set i row = es := by
  obtain ⟨hi, rfl⟩ := List.getElem?_eq_some_iff.1 h
  exact List.set_getElem_self hi
theorem own_vals {g : Heap'} {ow : Ow} {p : List Nat} {es : Obj'} {v : AVal} (h : Own g ow p (.list es) v) : gv v = some v ∧ ∀ d, pv d v = v := by
  rcases h.list_inv with ⟨_, rfl⟩ | ⟨_, id, es0, rfl, _⟩
  · exact ⟨rfl, fun _ => rfl⟩
  · exact ⟨rfl, fun _ => rfl⟩
theorem own_i {g : Heap'} {ow : Ow} {p : List Nat} {a b : Int} (h : a = b) : Own g ow p (vi a) (vi b) := by subst h; exact .int _ _ _
theorem own_b {g : Heap'} {ow : Ow} {p : List Nat} {a b : Bool} (h : a = b) : Own g ow p (.bool a) (.bool b) := by subst h; exact .bool _ _
theorem own_l {g : Heap'} {ow : Ow} {p : List Nat} {a b : AVal} {v : AVal} (h : b = a) (ho : Own g ow p a v) : Own g ow p b v := by subst h; exact ho
/-- What a mark leaves. -/
def MkOut (g : Heap') (ow : Ow) (p : List Nat) (v a : AVal) (n : Nat) (K : Int) (x : R) : Prop := ∃ g', x = some (vi K, ⟨n, g'⟩) ∧ Own g' ow p a v ∧ ∀ j, (∀ q, ow j = some q → ¬ p <+: q) → g' j = g j
def MkOK (mt : Nat → Nat → Option Nat) (f : Nat) (a a' : AVal) (k K : Int) : Prop := ∀ (g : Heap') (ow : Ow) (p : List Nat) (v : AVal) (n : Nat), Own g ow p a v → MkOut g ow p v a' n K (run AP mt f [v, vi k] ⟨n, g⟩)
theorem keep_of {g g' : Heap'} {ow : Ow} {p : List Nat} {P : Nat → List Nat → Prop} (h : ∀ j, (∀ q, ow j = some q → ¬ p <+: q) → g' j = g j) (hp : ∀ j q, P j q → ¬ p <+: q) : Keep g ow g' ow P := by
  intro j q hj hq
  refine ⟨fun es he => ?_, hj⟩
  rw [h j (fun q' hq' => ?_)]
  · exact he
  · rw [hj] at hq'; injection hq' with e; subst e; exact hp j q hq
theorem own_ne {ow : Ow} {id id' : Nat} {p q : List Nat} (h : ow id = some p) (h' : ow id' = some q) (hn : p ≠ q) : id' ≠ id := by rintro rfl; rw [h] at h'; injection h' with h'; exact hn h'
end Go.Ai
set_option linter.unusedSimpArgs false
set_option linter.unusedVariables false
namespace Go.Ai
variable {mt : Nat → Nat → Option Nat}
attribute [local simp] cnd_ite gS_ite callBy_whole
def cntInt (m : Int) : Nat := 1
def mkInt (k : Int) (m : Int) : Int := k
theorem cntInt_le (m : Int) : cntInt m ≤ 1 := by
  simp [cntInt]
theorem cntLInt_le (l : List Int) (h : l.length ≤ 2097152) : cntL cntInt l ≤ 2097152 := by
  have key : ∀ l : List Int, cntL cntInt l ≤ l.length * 1 := by
    intro l
    induction l with
    | nil => simp [cntL]
    | cons a as ih =>
      have h1 := cntInt_le a
      have h2 := ih
      simp only [cntL, List.length_cons, Nat.add_mul]; omega
  have h1 := key l
  have h2 : l.length * 1 ≤ 2097152 * 1 := Nat.mul_le_mul_right _ h
  omega
def cntOp (m : GOp) : Nat := 2
def mkOp (k : Int) (m : GOp) : GOp := ⟨k, k + 1⟩
theorem cntOp_le (m : GOp) : cntOp m ≤ 2 := by
  simp [cntOp]
theorem cntLOp_le (l : List GOp) (h : l.length ≤ 2097152) : cntL cntOp l ≤ 4194304 := by
  have key : ∀ l : List GOp, cntL cntOp l ≤ l.length * 2 := by
    intro l
    induction l with
    | nil => simp [cntL]
    | cons a as ih =>
      have h1 := cntOp_le a
      have h2 := ih
      simp only [cntL, List.length_cons, Nat.add_mul]; omega
  have h1 := key l
  have h2 : l.length * 2 ≤ 2097152 * 2 := Nat.mul_le_mul_right _ h
  omega
theorem k_72 (l : List GOp) (k : Int) (h : l.length ≤ 2097152) (hk : 0 ≤ k) (hK : k + cntL cntOp l ≤ 9000000000000000000) : MkOK mt 72 (.list (l.map eOp)) (.list ((mkL mkOp cntOp k l).map eOp)) k (k + cntL cntOp l) := by
  intro g ow p v n ho
  rw [run_evS AP_72 _ _ rfl]
  rcases ho.list_inv with ⟨h0, rfl⟩ | ⟨hne, id, es0, rfl, hw0, hg0, hl0, _⟩
  · have h0 : l = [] := by simpa using h0
    subst h0
    simp [c_72, cntL, mkL]
    rw [S_loop]
    simp [u_72_0, b_72_0]
    exact ⟨g, rfl, ho, fun _ _ => rfl⟩
  · have hll : l.length ≤ 2097152 := h
    have hz0 : AVal.int .i64 k = AVal.int .i64 (k + (cntL cntOp (l.take 0) : Nat)) := by simp [cntL]
    simp [c_72]
    rw [hz0]
    refine loop_for (MkOut g ow p (.slice id 0 l.length) _ n (k + cntL cntOp l)) l.length (fun i (s : Unit) => upd (upd (upd fr0 5 (vi i)) 1 (vi (k + cntL cntOp (l.take i)))) 0 (.slice id 0 l.length))
      (fun i _ G => G.next = n ∧ Own G.obj ow p (.list ((mix mkOp cntOp k l i).map eOp)) (.slice id 0 l.length) ∧ ∀ j, (∀ q, ow j = some q → ¬ p <+: q) → G.obj j = g j) (fun _ _ _ => u_72_0) ?_ ?_ l.length 0 () ⟨n, g⟩ (by omega) ⟨rfl, by rw [mix_zero]; simpa using ho, fun _ _ => rfl⟩
    · rintro _ ⟨m, g1⟩ ⟨rfl, ho1, hg1⟩
      have ht : l.take l.length = l := List.take_length
      simp [b_72_0]
      rw [mix_full] at ho1
      exact ⟨g1, rfl, ho1, hg1⟩
    · rintro i _ ⟨m, g1⟩ hi ⟨rfl, ho1, hg1⟩ next
      dsimp only at ho1 hg1
      obtain ⟨a, ha⟩ : ∃ a, l[i]? = some a := ⟨_, List.getElem?_eq_getElem hi⟩
      have ham := List.mem_of_getElem? ha
      have hc : (i : Int) < l.length := by omega
      have hwr : IntKind.i64.wrap ((i : Int) + 1) = (i : Int) + 1 := wrap_id (by omega) (by omega)
      have hct := cntL_take (cnt := cntOp) l i a ha
      have hcl := cntL_le (cnt := cntOp) l (i + 1)
      have hca : cntOp a = 2 := rfl
      rcases ho1.list_inv with ⟨h0, _⟩ | ⟨_, id1, es, e1, hw, hg, hl, hr⟩
      · exact absurd (congrArg List.length h0) (by rw [List.length_map, mix_len k l i (by omega)]; simp only [List.length_nil]; omega)
      injection e1 with e1 _ e2
      subst e1
      have hlen : es.length = l.length := by rw [hl]; simpa using mix_len (mk := mkOp) (cnt := cntOp) k l i (by omega)
      have hie : i < es.length := by omega
      obtain ⟨row, hrow, hR⟩ := hr i (eOp a) (by rw [List.getElem?_map, mix_get ha]; rfl)
      obtain ⟨x0, x1, rfl, o0, o1⟩ : ∃ x0 x1, row = [x0, x1] ∧ Own g1 ow (p ++ [i, 0]) (vi a.kind) x0 ∧ Own g1 ow (p ++ [i, 1]) (vi a.a) x1 := by
        match row, hR with
        | [x0, x1], ⟨o0, o1, _⟩ => exact ⟨x0, x1, rfl, o0, o1⟩
      have e0 := own_scal_inv (by rfl) o0
      subst e0
      have e1 := own_scal_inv (by rfl) o1
      subst e1
      generalize hk0 : k + cntL cntOp (l.take i) = k0 at *
      have hk00 : 0 ≤ k0 := by omega
      have hb0 : g1 id = some (es.set i [vi a.kind, vi a.a]) := by rw [hg]; congr 1; exact (set_self hrow).symm
      have gs : ∀ r, (es.set i r)[i]? = some r := fun r => by simp [hie]
      have ix1 : idxV 2 (.slice id 0 l.length) (.int .i64 (i : Int)) g1 = some (.ptr id i 0) := idx_row hb0 hie rfl hi
      have sr1 : stH 1 i 0 [vi (k0)] (some (es.set i [vi a.kind, vi a.a])) = some (es.set i [vi (k0), vi a.a]) := st_row hie ⟨rfl, by simp⟩ rfl
      have hb1 : (updO g1 id (some (es.set i [vi (k0), vi a.a]))) id = some (es.set i [vi (k0), vi a.a]) := updO_same
      have ch1 : ∀ j, j ≠ id → (updO g1 id (some (es.set i [vi (k0), vi a.a]))) j = (g1) j := fun j hj => updO_ne hj
      have kw1 : IntKind.i64.wrap (k0 + 1) = k0 + 1 := wrap_id (by omega) (by omega)
      have ix2 : idxV 2 (.slice id 0 l.length) (.int .i64 (i : Int)) (updO g1 id (some (es.set i [vi (k0), vi a.a]))) = some (.ptr id i 0) := idx_row hb1 hie rfl hi
      have sr2 : stH 1 i 1 [vi (k0 + 1)] (some (es.set i [vi (k0), vi a.a])) = some (es.set i [vi (k0), vi (k0 + 1)]) := st_row hie ⟨rfl, by simp⟩ rfl
      have hb2 : (updO (updO g1 id (some (es.set i [vi (k0), vi a.a]))) id (some (es.set i [vi (k0), vi (k0 + 1)]))) id = some (es.set i [vi (k0), vi (k0 + 1)]) := updO_same
      have ch2 : ∀ j, j ≠ id → (updO (updO g1 id (some (es.set i [vi (k0), vi a.a]))) id (some (es.set i [vi (k0), vi (k0 + 1)]))) j = (updO g1 id (some (es.set i [vi (k0), vi a.a]))) j := fun j hj => updO_ne hj
      have kw2 : IntKind.i64.wrap ((k0 + 1) + 1) = k0 + 1 + 1 := wrap_id (by omega) (by omega)
      have hkE : k + cntL cntOp (l.take (i + 1)) = k0 + 1 + 1 := by rw [hct, hca]; omega
      have nx := next () ⟨m, updO (updO g1 id (some (es.set i [vi (k0), vi a.a]))) id (some (es.set i [vi (k0), vi (k0 + 1)]))⟩ ⟨rfl, ?_, ?_⟩
      · rw [hkE] at nx
        simp [b_72_0, hc, hwr, ix1, hb0, sr1, kw1, ix2, hb1, sr2, kw2]
        simpa using nx
      · rw [mix_succ ha, hk0, List.map_set]
        refine ho1.setRow (g := g1) (by rw [hg]) (by rw [List.length_map, mix_len k l i (by omega)]; exact hi) hb2 hw ?_ ?_
        · exact ⟨own_i (by first | rfl | (simp only [mkOp]; omega)), own_i (by first | rfl | (simp only [mkOp]; omega)), trivial⟩
        · exact ((Keep.refl).upd (fun q hq hp => by rw [hw] at hq; injection hq with hq; subst hq; obtain ⟨t, _, h1⟩ := hp; exact not_pre h1)).upd (fun q hq hp => by rw [hw] at hq; injection hq with hq; subst hq; obtain ⟨t, _, h1⟩ := hp; exact not_pre h1)
      · intro j hj
        have hjn : j ≠ id := by rintro rfl; exact hj p hw (List.prefix_refl _)
        have hjp : ∀ c q, ow j = some q → ¬ p ++ [i, c] <+: q := fun c q hq hp => hj q hq ((List.prefix_append _ _).trans hp)
        show (updO (updO g1 id (some (es.set i [vi (k0), vi a.a]))) id (some (es.set i [vi (k0), vi (k0 + 1)]))) j = g j
        rw [ch2 j hjn, ch1 j hjn]
        exact hg1 j hj
def cntVal (m : GVal) : Nat := 2
def mkVal (k : Int) (m : GVal) : GVal := ⟨k, k + 1⟩
theorem cntVal_le (m : GVal) : cntVal m ≤ 2 := by
  simp [cntVal]
theorem cntLVal_le (l : List GVal) (h : l.length ≤ 2097152) : cntL cntVal l ≤ 4194304 := by
  have key : ∀ l : List GVal, cntL cntVal l ≤ l.length * 2 := by
    intro l
    induction l with
    | nil => simp [cntL]
    | cons a as ih =>
      have h1 := cntVal_le a
      have h2 := ih
      simp only [cntL, List.length_cons, Nat.add_mul]; omega
  have h1 := key l
  have h2 : l.length * 2 ≤ 2097152 * 2 := Nat.mul_le_mul_right _ h
  omega
theorem k_43 (l : List GVal) (k : Int) (h : l.length ≤ 2097152) (hk : 0 ≤ k) (hK : k + cntL cntVal l ≤ 9000000000000000000) : MkOK mt 43 (.list (l.map eVal)) (.list ((mkL mkVal cntVal k l).map eVal)) k (k + cntL cntVal l) := by
  intro g ow p v n ho
  rw [run_evS AP_43 _ _ rfl]
  rcases ho.list_inv with ⟨h0, rfl⟩ | ⟨hne, id, es0, rfl, hw0, hg0, hl0, _⟩
  · have h0 : l = [] := by simpa using h0
    subst h0
    simp [c_43, cntL, mkL]
    rw [S_loop]
    simp [u_43_0, b_43_0]
    exact ⟨g, rfl, ho, fun _ _ => rfl⟩
  · have hll : l.length ≤ 2097152 := h
    have hz0 : AVal.int .i64 k = AVal.int .i64 (k + (cntL cntVal (l.take 0) : Nat)) := by simp [cntL]
    simp [c_43]
    rw [hz0]
    refine loop_for (MkOut g ow p (.slice id 0 l.length) _ n (k + cntL cntVal l)) l.length (fun i (s : Unit) => upd (upd (upd fr0 5 (vi i)) 1 (vi (k + cntL cntVal (l.take i)))) 0 (.slice id 0 l.length))
      (fun i _ G => G.next = n ∧ Own G.obj ow p (.list ((mix mkVal cntVal k l i).map eVal)) (.slice id 0 l.length) ∧ ∀ j, (∀ q, ow j = some q → ¬ p <+: q) → G.obj j = g j) (fun _ _ _ => u_43_0) ?_ ?_ l.length 0 () ⟨n, g⟩ (by omega) ⟨rfl, by rw [mix_zero]; simpa using ho, fun _ _ => rfl⟩
    · rintro _ ⟨m, g1⟩ ⟨rfl, ho1, hg1⟩
      have ht : l.take l.length = l := List.take_length
      simp [b_43_0]
      rw [mix_full] at ho1
      exact ⟨g1, rfl, ho1, hg1⟩
    · rintro i _ ⟨m, g1⟩ hi ⟨rfl, ho1, hg1⟩ next
      dsimp only at ho1 hg1
      obtain ⟨a, ha⟩ : ∃ a, l[i]? = some a := ⟨_, List.getElem?_eq_getElem hi⟩
      have ham := List.mem_of_getElem? ha
      have hc : (i : Int) < l.length := by omega
      have hwr : IntKind.i64.wrap ((i : Int) + 1) = (i : Int) + 1 := wrap_id (by omega) (by omega)
      have hct := cntL_take (cnt := cntVal) l i a ha
      have hcl := cntL_le (cnt := cntVal) l (i + 1)
      have hca : cntVal a = 2 := rfl
      rcases ho1.list_inv with ⟨h0, _⟩ | ⟨_, id1, es, e1, hw, hg, hl, hr⟩
      · exact absurd (congrArg List.length h0) (by rw [List.length_map, mix_len k l i (by omega)]; simp only [List.length_nil]; omega)
      injection e1 with e1 _ e2
      subst e1
      have hlen : es.length = l.length := by rw [hl]; simpa using mix_len (mk := mkVal) (cnt := cntVal) k l i (by omega)
      have hie : i < es.length := by omega
      obtain ⟨row, hrow, hR⟩ := hr i (eVal a) (by rw [List.getElem?_map, mix_get ha]; rfl)
      obtain ⟨x0, x1, rfl, o0, o1⟩ : ∃ x0 x1, row = [x0, x1] ∧ Own g1 ow (p ++ [i, 0]) (vi a.kind) x0 ∧ Own g1 ow (p ++ [i, 1]) (vi a.num) x1 := by
        match row, hR with
        | [x0, x1], ⟨o0, o1, _⟩ => exact ⟨x0, x1, rfl, o0, o1⟩
      have e0 := own_scal_inv (by rfl) o0
      subst e0
      have e1 := own_scal_inv (by rfl) o1
      subst e1
      generalize hk0 : k + cntL cntVal (l.take i) = k0 at *
      have hk00 : 0 ≤ k0 := by omega
      have hb0 : g1 id = some (es.set i [vi a.kind, vi a.num]) := by rw [hg]; congr 1; exact (set_self hrow).symm
      have gs : ∀ r, (es.set i r)[i]? = some r := fun r => by simp [hie]
      have ix1 : idxV 2 (.slice id 0 l.length) (.int .i64 (i : Int)) g1 = some (.ptr id i 0) := idx_row hb0 hie rfl hi
      have sr1 : stH 1 i 0 [vi (k0)] (some (es.set i [vi a.kind, vi a.num])) = some (es.set i [vi (k0), vi a.num]) := st_row hie ⟨rfl, by simp⟩ rfl
      have hb1 : (updO g1 id (some (es.set i [vi (k0), vi a.num]))) id = some (es.set i [vi (k0), vi a.num]) := updO_same
      have ch1 : ∀ j, j ≠ id → (updO g1 id (some (es.set i [vi (k0), vi a.num]))) j = (g1) j := fun j hj => updO_ne hj
      have kw1 : IntKind.i64.wrap (k0 + 1) = k0 + 1 := wrap_id (by omega) (by omega)
      have ix2 : idxV 2 (.slice id 0 l.length) (.int .i64 (i : Int)) (updO g1 id (some (es.set i [vi (k0), vi a.num]))) = some (.ptr id i 0) := idx_row hb1 hie rfl hi
      have sr2 : stH 1 i 1 [vi (k0 + 1)] (some (es.set i [vi (k0), vi a.num])) = some (es.set i [vi (k0), vi (k0 + 1)]) := st_row hie ⟨rfl, by simp⟩ rfl
      have hb2 : (updO (updO g1 id (some (es.set i [vi (k0), vi a.num]))) id (some (es.set i [vi (k0), vi (k0 + 1)]))) id = some (es.set i [vi (k0), vi (k0 + 1)]) := updO_same
      have ch2 : ∀ j, j ≠ id → (updO (updO g1 id (some (es.set i [vi (k0), vi a.num]))) id (some (es.set i [vi (k0), vi (k0 + 1)]))) j = (updO g1 id (some (es.set i [vi (k0), vi a.num]))) j := fun j hj => updO_ne hj
      have kw2 : IntKind.i64.wrap ((k0 + 1) + 1) = k0 + 1 + 1 := wrap_id (by omega) (by omega)
      have hkE : k + cntL cntVal (l.take (i + 1)) = k0 + 1 + 1 := by rw [hct, hca]; omega
      have nx := next () ⟨m, updO (updO g1 id (some (es.set i [vi (k0), vi a.num]))) id (some (es.set i [vi (k0), vi (k0 + 1)]))⟩ ⟨rfl, ?_, ?_⟩
      · rw [hkE] at nx
        simp [b_43_0, hc, hwr, ix1, hb0, sr1, kw1, ix2, hb1, sr2, kw2]
        simpa using nx
      · rw [mix_succ ha, hk0, List.map_set]
        refine ho1.setRow (g := g1) (by rw [hg]) (by rw [List.length_map, mix_len k l i (by omega)]; exact hi) hb2 hw ?_ ?_
        · exact ⟨own_i (by first | rfl | (simp only [mkVal]; omega)), own_i (by first | rfl | (simp only [mkVal]; omega)), trivial⟩
        · exact ((Keep.refl).upd (fun q hq hp => by rw [hw] at hq; injection hq with hq; subst hq; obtain ⟨t, _, h1⟩ := hp; exact not_pre h1)).upd (fun q hq hp => by rw [hw] at hq; injection hq with hq; subst hq; obtain ⟨t, _, h1⟩ := hp; exact not_pre h1)
      · intro j hj
        have hjn : j ≠ id := by rintro rfl; exact hj p hw (List.prefix_refl _)
        have hjp : ∀ c q, ow j = some q → ¬ p ++ [i, c] <+: q := fun c q hq hp => hj q hq ((List.prefix_append _ _).trans hp)
        show (updO (updO g1 id (some (es.set i [vi (k0), vi a.num]))) id (some (es.set i [vi (k0), vi (k0 + 1)]))) j = g j
        rw [ch2 j hjn, ch1 j hjn]
        exact hg1 j hj
def cntMethod (m : GMethod) : Nat := 2 + cntL cntOp m.ops
def mkMethod (k : Int) (m : GMethod) : GMethod := ⟨k, k + 1, mkL mkOp cntOp (k + 2) m.ops⟩
theorem cntMethod_le (m : GMethod) (h : m.ops.length ≤ 2097152) : cntMethod m ≤ 4194306 := by
  have h0 := cntLOp_le m.ops h
  simp only [cntMethod]; omega
theorem cntLMethod_le (l : List GMethod) (h : l.length ≤ 2097152 ∧ ∀ m ∈ l, m.ops.length ≤ 2097152) : cntL cntMethod l ≤ 8796097216512 := by
  have key : ∀ l : List GMethod, (∀ m ∈ l, m.ops.length ≤ 2097152) → cntL cntMethod l ≤ l.length * 4194306 := by
    intro l
    induction l with
    | nil => intro _; simp [cntL]
    | cons a as ih =>
      intro hh
      have h1 := cntMethod_le a (hh a (List.mem_cons_self ..))
      have h2 := ih (fun m hm => hh m (List.mem_cons_of_mem _ hm))
      simp only [cntL, List.length_cons, Nat.add_mul]; omega
  have h1 := key l h.2
  have h2 : l.length * 4194306 ≤ 2097152 * 4194306 := Nat.mul_le_mul_right _ h.1
  omega
theorem k_41 (l : List GMethod) (k : Int) (h : l.length ≤ 2097152 ∧ ∀ m ∈ l, m.ops.length ≤ 2097152) (hk : 0 ≤ k) (hK : k + cntL cntMethod l ≤ 9000000000000000000) : MkOK mt 41 (.list (l.map eMethod)) (.list ((mkL mkMethod cntMethod k l).map eMethod)) k (k + cntL cntMethod l) := by
  intro g ow p v n ho
  rw [run_evS AP_41 _ _ rfl]
  rcases ho.list_inv with ⟨h0, rfl⟩ | ⟨hne, id, es0, rfl, hw0, hg0, hl0, _⟩
  · have h0 : l = [] := by simpa using h0
    subst h0
    simp [c_41, cntL, mkL]
    rw [S_loop]
    simp [u_41_0, b_41_0]
    exact ⟨g, rfl, ho, fun _ _ => rfl⟩
  · have hll : l.length ≤ 2097152 := h.1
    have hz0 : AVal.int .i64 k = AVal.int .i64 (k + (cntL cntMethod (l.take 0) : Nat)) := by simp [cntL]
    simp [c_41]
    rw [hz0]
    refine loop_for (MkOut g ow p (.slice id 0 l.length) _ n (k + cntL cntMethod l)) l.length (fun i (s : Unit) => upd (upd (upd fr0 5 (vi i)) 1 (vi (k + cntL cntMethod (l.take i)))) 0 (.slice id 0 l.length))
      (fun i _ G => G.next = n ∧ Own G.obj ow p (.list ((mix mkMethod cntMethod k l i).map eMethod)) (.slice id 0 l.length) ∧ ∀ j, (∀ q, ow j = some q → ¬ p <+: q) → G.obj j = g j) (fun _ _ _ => u_41_0) ?_ ?_ l.length 0 () ⟨n, g⟩ (by omega) ⟨rfl, by rw [mix_zero]; simpa using ho, fun _ _ => rfl⟩
    · rintro _ ⟨m, g1⟩ ⟨rfl, ho1, hg1⟩
      have ht : l.take l.length = l := List.take_length
      simp [b_41_0]
      rw [mix_full] at ho1
      exact ⟨g1, rfl, ho1, hg1⟩
    · rintro i _ ⟨m, g1⟩ hi ⟨rfl, ho1, hg1⟩ next
      dsimp only at ho1 hg1
      obtain ⟨a, ha⟩ : ∃ a, l[i]? = some a := ⟨_, List.getElem?_eq_getElem hi⟩
      have ham := List.mem_of_getElem? ha
      have hc : (i : Int) < l.length := by omega
      have hwr : IntKind.i64.wrap ((i : Int) + 1) = (i : Int) + 1 := wrap_id (by omega) (by omega)
      have hct := cntL_take (cnt := cntMethod) l i a ha
      have hcl := cntL_le (cnt := cntMethod) l (i + 1)
      have hca : cntMethod a = 2 + cntL cntOp a.ops := rfl
      rcases ho1.list_inv with ⟨h0, _⟩ | ⟨_, id1, es, e1, hw, hg, hl, hr⟩
      · exact absurd (congrArg List.length h0) (by rw [List.length_map, mix_len k l i (by omega)]; simp only [List.length_nil]; omega)
      injection e1 with e1 _ e2
      subst e1
      have hlen : es.length = l.length := by rw [hl]; simpa using mix_len (mk := mkMethod) (cnt := cntMethod) k l i (by omega)
      have hie : i < es.length := by omega
      obtain ⟨row, hrow, hR⟩ := hr i (eMethod a) (by rw [List.getElem?_map, mix_get ha]; rfl)
      obtain ⟨x0, x1, x2, rfl, o0, o1, o2⟩ : ∃ x0 x1 x2, row = [x0, x1, x2] ∧ Own g1 ow (p ++ [i, 0]) (vi a.args) x0 ∧ Own g1 ow (p ++ [i, 1]) (vi a.temps) x1 ∧ Own g1 ow (p ++ [i, 2]) (.list (a.ops.map eOp)) x2 := by
        match row, hR with
        | [x0, x1, x2], ⟨o0, o1, o2, _⟩ => exact ⟨x0, x1, x2, rfl, o0, o1, o2⟩
      have e0 := own_scal_inv (by rfl) o0
      subst e0
      have e1 := own_scal_inv (by rfl) o1
      subst e1
      generalize hk0 : k + cntL cntMethod (l.take i) = k0 at *
      have hk00 : 0 ≤ k0 := by omega
      have hb0 : g1 id = some (es.set i [vi a.args, vi a.temps, x2]) := by rw [hg]; congr 1; exact (set_self hrow).symm
      have gs : ∀ r, (es.set i r)[i]? = some r := fun r => by simp [hie]
      have ix1 : idxV 3 (.slice id 0 l.length) (.int .i64 (i : Int)) g1 = some (.ptr id i 0) := idx_row hb0 hie rfl hi
      have sr1 : stH 1 i 0 [vi (k0)] (some (es.set i [vi a.args, vi a.temps, x2])) = some (es.set i [vi (k0), vi a.temps, x2]) := st_row hie ⟨rfl, by simp⟩ rfl
      have hb1 : (updO g1 id (some (es.set i [vi (k0), vi a.temps, x2]))) id = some (es.set i [vi (k0), vi a.temps, x2]) := updO_same
      have w1_2 : Own (updO g1 id (some (es.set i [vi (k0), vi a.temps, x2]))) ow (p ++ [i, 2]) (.list (a.ops.map eOp)) x2 := (o2).mono (Keep.refl.upd (fun q hq hp => by rw [hw] at hq; injection hq with hq; subst hq; exact not_pre2 hp))
      have ch1 : ∀ j, j ≠ id → (updO g1 id (some (es.set i [vi (k0), vi a.temps, x2]))) j = (g1) j := fun j hj => updO_ne hj
      have kw1 : IntKind.i64.wrap (k0 + 1) = k0 + 1 := wrap_id (by omega) (by omega)
      have ix2 : idxV 3 (.slice id 0 l.length) (.int .i64 (i : Int)) (updO g1 id (some (es.set i [vi (k0), vi a.temps, x2]))) = some (.ptr id i 0) := idx_row hb1 hie rfl hi
      have sr2 : stH 1 i 1 [vi (k0 + 1)] (some (es.set i [vi (k0), vi a.temps, x2])) = some (es.set i [vi (k0), vi (k0 + 1), x2]) := st_row hie ⟨rfl, by simp⟩ rfl
      have hb2 : (updO (updO g1 id (some (es.set i [vi (k0), vi a.temps, x2]))) id (some (es.set i [vi (k0), vi (k0 + 1), x2]))) id = some (es.set i [vi (k0), vi (k0 + 1), x2]) := updO_same
      have w2_2 : Own (updO (updO g1 id (some (es.set i [vi (k0), vi a.temps, x2]))) id (some (es.set i [vi (k0), vi (k0 + 1), x2]))) ow (p ++ [i, 2]) (.list (a.ops.map eOp)) x2 := (w1_2).mono (Keep.refl.upd (fun q hq hp => by rw [hw] at hq; injection hq with hq; subst hq; exact not_pre2 hp))
      have ch2 : ∀ j, j ≠ id → (updO (updO g1 id (some (es.set i [vi (k0), vi a.temps, x2]))) id (some (es.set i [vi (k0), vi (k0 + 1), x2]))) j = (updO g1 id (some (es.set i [vi (k0), vi a.temps, x2]))) j := fun j hj => updO_ne hj
      have kw2 : IntKind.i64.wrap ((k0 + 1) + 1) = k0 + 1 + 1 := wrap_id (by omega) (by omega)
      have ix3 : idxV 3 (.slice id 0 l.length) (.int .i64 (i : Int)) (updO (updO g1 id (some (es.set i [vi (k0), vi a.temps, x2]))) id (some (es.set i [vi (k0), vi (k0 + 1), x2]))) = some (.ptr id i 0) := idx_row hb2 hie rfl hi
      have ow3 := w2_2
      obtain ⟨y3, yr3, yo3, yk3⟩ := k_72 (mt := mt) a.ops (k0 + 1 + 1) (h.2 a ham) (by omega) (by omega) (updO (updO g1 id (some (es.set i [vi (k0), vi a.temps, x2]))) id (some (es.set i [vi (k0), vi (k0 + 1), x2]))) ow (p ++ [i, 2]) x2 m ow3
      have hb3 : y3 id = some (es.set i [vi (k0), vi (k0 + 1), x2]) := by rw [yk3 id (fun q hq hp => by rw [hw] at hq; injection hq with hq; subst hq; exact not_pre2 hp)]; exact hb2
      have pv3 : ∀ d, pv d x2 = x2 := fun d => (own_vals (w2_2)).2 d
      have gv3 : gv x2 = some x2 := (own_vals (w2_2)).1
      have hkE : k + cntL cntMethod (l.take (i + 1)) = k0 + 1 + 1 + (cntL cntOp a.ops : Nat) := by rw [hct, hca]; omega
      have nx := next () ⟨m, y3⟩ ⟨rfl, ?_, ?_⟩
      · rw [hkE] at nx
        simp [b_41_0, hc, hwr, gs, ix1, hb0, sr1, kw1, ix2, hb1, sr2, kw2, ix3, yr3, hb2, pv3, gv3]
        simpa using nx
      · rw [mix_succ ha, hk0, List.map_set]
        refine ho1.setRow (g := g1) (by rw [hg]) (by rw [List.length_map, mix_len k l i (by omega)]; exact hi) hb3 hw ?_ ?_
        · exact ⟨own_i (by first | rfl | (simp only [mkMethod]; omega)), own_i (by first | rfl | (simp only [mkMethod]; omega)), own_l (by congr 2; simp only [mkMethod]; congr 1; omega) (yo3), trivial⟩
        · exact (((Keep.refl).upd (fun q hq hp => by rw [hw] at hq; injection hq with hq; subst hq; obtain ⟨t, _, h1⟩ := hp; exact not_pre h1)).upd (fun q hq hp => by rw [hw] at hq; injection hq with hq; subst hq; obtain ⟨t, _, h1⟩ := hp; exact not_pre h1)).trans (keep_of (P := fun _ q => ∃ t, t ≠ i ∧ p ++ [t] <+: q) yk3 (fun j q h1 h2 => by obtain ⟨t, ht, h1⟩ := h1; exact ht (pre_i h1 h2))) (fun _ _ _ h => h)
      · intro j hj
        have hjn : j ≠ id := by rintro rfl; exact hj p hw (List.prefix_refl _)
        have hjp : ∀ c q, ow j = some q → ¬ p ++ [i, c] <+: q := fun c q hq hp => hj q hq ((List.prefix_append _ _).trans hp)
        show (y3) j = g j
        rw [yk3 j (hjp 2), ch2 j hjn, ch1 j hjn]
        exact hg1 j hj
def cntCall (m : GCall) : Nat := 4 + cntL cntVal m.temps + cntL cntVal m.stack
def mkCall (k : Int) (m : GCall) : GCall := ⟨k, k + 1, mkL mkVal cntVal (k + 2) m.temps, mkL mkVal cntVal (k + 2 + (cntL cntVal m.temps : Nat)) m.stack, k + 2 + (cntL cntVal m.temps : Nat) + (cntL cntVal m.stack : Nat), decide ((k + 3 + (cntL cntVal m.temps : Nat) + (cntL cntVal m.stack : Nat)) % 3 = 0)⟩
theorem cntCall_le (m : GCall) (h : m.temps.length ≤ 2097152 ∧ m.stack.length ≤ 2097152) : cntCall m ≤ 8388612 := by
  have h0 := cntLVal_le m.temps h.1
  have h1 := cntLVal_le m.stack h.2
  simp only [cntCall]; omega
theorem cntLCall_le (l : List GCall) (h : l.length ≤ 2097152 ∧ ∀ m ∈ l, m.temps.length ≤ 2097152 ∧ m.stack.length ≤ 2097152) : cntL cntCall l ≤ 17592194433024 := by
  have key : ∀ l : List GCall, (∀ m ∈ l, m.temps.length ≤ 2097152 ∧ m.stack.length ≤ 2097152) → cntL cntCall l ≤ l.length * 8388612 := by
    intro l
    induction l with
    | nil => intro _; simp [cntL]
    | cons a as ih =>
      intro hh
      have h1 := cntCall_le a (hh a (List.mem_cons_self ..))
      have h2 := ih (fun m hm => hh m (List.mem_cons_of_mem _ hm))
      simp only [cntL, List.length_cons, Nat.add_mul]; omega
  have h1 := key l h.2
  have h2 : l.length * 8388612 ≤ 2097152 * 8388612 := Nat.mul_le_mul_right _ h.1
  omega
theorem k_42 (l : List GCall) (k : Int) (h : l.length ≤ 2097152 ∧ ∀ m ∈ l, m.temps.length ≤ 2097152 ∧ m.stack.length ≤ 2097152) (hk : 0 ≤ k) (hK : k + cntL cntCall l ≤ 9000000000000000000) : MkOK mt 42 (.list (l.map eCall)) (.list ((mkL mkCall cntCall k l).map eCall)) k (k + cntL cntCall l) := by
  intro g ow p v n ho
  rw [run_evS AP_42 _ _ rfl]
  rcases ho.list_inv with ⟨h0, rfl⟩ | ⟨hne, id, es0, rfl, hw0, hg0, hl0, _⟩
  · have h0 : l = [] := by simpa using h0
    subst h0
    simp [c_42, cntL, mkL]
    rw [S_loop]
    simp [u_42_0, b_42_0]
    exact ⟨g, rfl, ho, fun _ _ => rfl⟩
  · have hll : l.length ≤ 2097152 := h.1
    have hz0 : AVal.int .i64 k = AVal.int .i64 (k + (cntL cntCall (l.take 0) : Nat)) := by simp [cntL]
    simp [c_42]
    rw [hz0]
    refine loop_for (MkOut g ow p (.slice id 0 l.length) _ n (k + cntL cntCall l)) l.length (fun i (s : Unit) => upd (upd (upd fr0 5 (vi i)) 1 (vi (k + cntL cntCall (l.take i)))) 0 (.slice id 0 l.length))
      (fun i _ G => G.next = n ∧ Own G.obj ow p (.list ((mix mkCall cntCall k l i).map eCall)) (.slice id 0 l.length) ∧ ∀ j, (∀ q, ow j = some q → ¬ p <+: q) → G.obj j = g j) (fun _ _ _ => u_42_0) ?_ ?_ l.length 0 () ⟨n, g⟩ (by omega) ⟨rfl, by rw [mix_zero]; simpa using ho, fun _ _ => rfl⟩
    · rintro _ ⟨m, g1⟩ ⟨rfl, ho1, hg1⟩
      have ht : l.take l.length = l := List.take_length
      simp [b_42_0]
      rw [mix_full] at ho1
      exact ⟨g1, rfl, ho1, hg1⟩
    · rintro i _ ⟨m, g1⟩ hi ⟨rfl, ho1, hg1⟩ next
      dsimp only at ho1 hg1
      obtain ⟨a, ha⟩ : ∃ a, l[i]? = some a := ⟨_, List.getElem?_eq_getElem hi⟩
      have ham := List.mem_of_getElem? ha
      have hc : (i : Int) < l.length := by omega
      have hwr : IntKind.i64.wrap ((i : Int) + 1) = (i : Int) + 1 := wrap_id (by omega) (by omega)
      have hct := cntL_take (cnt := cntCall) l i a ha
      have hcl := cntL_le (cnt := cntCall) l (i + 1)
      have hca : cntCall a = 4 + cntL cntVal a.temps + cntL cntVal a.stack := rfl
      rcases ho1.list_inv with ⟨h0, _⟩ | ⟨_, id1, es, e1, hw, hg, hl, hr⟩
      · exact absurd (congrArg List.length h0) (by rw [List.length_map, mix_len k l i (by omega)]; simp only [List.length_nil]; omega)
      injection e1 with e1 _ e2
      subst e1
      have hlen : es.length = l.length := by rw [hl]; simpa using mix_len (mk := mkCall) (cnt := cntCall) k l i (by omega)
      have hie : i < es.length := by omega
      obtain ⟨row, hrow, hR⟩ := hr i (eCall a) (by rw [List.getElem?_map, mix_get ha]; rfl)
      obtain ⟨x0, x1, x2, x3, x4, x5, rfl, o0, o1, o2, o3, o4, o5⟩ : ∃ x0 x1 x2 x3 x4 x5, row = [x0, x1, x2, x3, x4, x5] ∧ Own g1 ow (p ++ [i, 0]) (vi a.method) x0 ∧ Own g1 ow (p ++ [i, 1]) (vi a.pc) x1 ∧ Own g1 ow (p ++ [i, 2]) (.list (a.temps.map eVal)) x2 ∧ Own g1 ow (p ++ [i, 3]) (.list (a.stack.map eVal)) x3 ∧ Own g1 ow (p ++ [i, 4]) (vi a.sender) x4 ∧ Own g1 ow (p ++ [i, 5]) (.bool a.dead) x5 := by
        match row, hR with
        | [x0, x1, x2, x3, x4, x5], ⟨o0, o1, o2, o3, o4, o5, _⟩ => exact ⟨x0, x1, x2, x3, x4, x5, rfl, o0, o1, o2, o3, o4, o5⟩
      have e0 := own_scal_inv (by rfl) o0
      subst e0
      have e1 := own_scal_inv (by rfl) o1
      subst e1
      have e4 := own_scal_inv (by rfl) o4
      subst e4
      have e5 := own_scal_inv (by rfl) o5
      subst e5
      generalize hk0 : k + cntL cntCall (l.take i) = k0 at *
      have hk00 : 0 ≤ k0 := by omega
      have hb0 : g1 id = some (es.set i [vi a.method, vi a.pc, x2, x3, vi a.sender, .bool a.dead]) := by rw [hg]; congr 1; exact (set_self hrow).symm
      have gs : ∀ r, (es.set i r)[i]? = some r := fun r => by simp [hie]
      have ix1 : idxV 6 (.slice id 0 l.length) (.int .i64 (i : Int)) g1 = some (.ptr id i 0) := idx_row hb0 hie rfl hi
      have sr1 : stH 1 i 0 [vi (k0)] (some (es.set i [vi a.method, vi a.pc, x2, x3, vi a.sender, .bool a.dead])) = some (es.set i [vi (k0), vi a.pc, x2, x3, vi a.sender, .bool a.dead]) := st_row hie ⟨rfl, by simp⟩ rfl
      have hb1 : (updO g1 id (some (es.set i [vi (k0), vi a.pc, x2, x3, vi a.sender, .bool a.dead]))) id = some (es.set i [vi (k0), vi a.pc, x2, x3, vi a.sender, .bool a.dead]) := updO_same
      have w1_2 : Own (updO g1 id (some (es.set i [vi (k0), vi a.pc, x2, x3, vi a.sender, .bool a.dead]))) ow (p ++ [i, 2]) (.list (a.temps.map eVal)) x2 := (o2).mono (Keep.refl.upd (fun q hq hp => by rw [hw] at hq; injection hq with hq; subst hq; exact not_pre2 hp))
      have w1_3 : Own (updO g1 id (some (es.set i [vi (k0), vi a.pc, x2, x3, vi a.sender, .bool a.dead]))) ow (p ++ [i, 3]) (.list (a.stack.map eVal)) x3 := (o3).mono (Keep.refl.upd (fun q hq hp => by rw [hw] at hq; injection hq with hq; subst hq; exact not_pre2 hp))
      have ch1 : ∀ j, j ≠ id → (updO g1 id (some (es.set i [vi (k0), vi a.pc, x2, x3, vi a.sender, .bool a.dead]))) j = (g1) j := fun j hj => updO_ne hj
      have kw1 : IntKind.i64.wrap (k0 + 1) = k0 + 1 := wrap_id (by omega) (by omega)
      have ix2 : idxV 6 (.slice id 0 l.length) (.int .i64 (i : Int)) (updO g1 id (some (es.set i [vi (k0), vi a.pc, x2, x3, vi a.sender, .bool a.dead]))) = some (.ptr id i 0) := idx_row hb1 hie rfl hi
      have sr2 : stH 1 i 1 [vi (k0 + 1)] (some (es.set i [vi (k0), vi a.pc, x2, x3, vi a.sender, .bool a.dead])) = some (es.set i [vi (k0), vi (k0 + 1), x2, x3, vi a.sender, .bool a.dead]) := st_row hie ⟨rfl, by simp⟩ rfl
      have hb2 : (updO (updO g1 id (some (es.set i [vi (k0), vi a.pc, x2, x3, vi a.sender, .bool a.dead]))) id (some (es.set i [vi (k0), vi (k0 + 1), x2, x3, vi a.sender, .bool a.dead]))) id = some (es.set i [vi (k0), vi (k0 + 1), x2, x3, vi a.sender, .bool a.dead]) := updO_same
      have w2_2 : Own (updO (updO g1 id (some (es.set i [vi (k0), vi a.pc, x2, x3, vi a.sender, .bool a.dead]))) id (some (es.set i [vi (k0), vi (k0 + 1), x2, x3, vi a.sender, .bool a.dead]))) ow (p ++ [i, 2]) (.list (a.temps.map eVal)) x2 := (w1_2).mono (Keep.refl.upd (fun q hq hp => by rw [hw] at hq; injection hq with hq; subst hq; exact not_pre2 hp))
      have w2_3 : Own (updO (updO g1 id (some (es.set i [vi (k0), vi a.pc, x2, x3, vi a.sender, .bool a.dead]))) id (some (es.set i [vi (k0), vi (k0 + 1), x2, x3, vi a.sender, .bool a.dead]))) ow (p ++ [i, 3]) (.list (a.stack.map eVal)) x3 := (w1_3).mono (Keep.refl.upd (fun q hq hp => by rw [hw] at hq; injection hq with hq; subst hq; exact not_pre2 hp))
      have ch2 : ∀ j, j ≠ id → (updO (updO g1 id (some (es.set i [vi (k0), vi a.pc, x2, x3, vi a.sender, .bool a.dead]))) id (some (es.set i [vi (k0), vi (k0 + 1), x2, x3, vi a.sender, .bool a.dead]))) j = (updO g1 id (some (es.set i [vi (k0), vi a.pc, x2, x3, vi a.sender, .bool a.dead]))) j := fun j hj => updO_ne hj
      have kw2 : IntKind.i64.wrap ((k0 + 1) + 1) = k0 + 1 + 1 := wrap_id (by omega) (by omega)
      have ix3 : idxV 6 (.slice id 0 l.length) (.int .i64 (i : Int)) (updO (updO g1 id (some (es.set i [vi (k0), vi a.pc, x2, x3, vi a.sender, .bool a.dead]))) id (some (es.set i [vi (k0), vi (k0 + 1), x2, x3, vi a.sender, .bool a.dead]))) = some (.ptr id i 0) := idx_row hb2 hie rfl hi
      have ow3 := w2_2
      obtain ⟨y3, yr3, yo3, yk3⟩ := k_43 (mt := mt) a.temps (k0 + 1 + 1) (h.2 a ham).1 (by omega) (by omega) (updO (updO g1 id (some (es.set i [vi (k0), vi a.pc, x2, x3, vi a.sender, .bool a.dead]))) id (some (es.set i [vi (k0), vi (k0 + 1), x2, x3, vi a.sender, .bool a.dead]))) ow (p ++ [i, 2]) x2 m ow3
      have hb3 : y3 id = some (es.set i [vi (k0), vi (k0 + 1), x2, x3, vi a.sender, .bool a.dead]) := by rw [yk3 id (fun q hq hp => by rw [hw] at hq; injection hq with hq; subst hq; exact not_pre2 hp)]; exact hb2
      have pv3 : ∀ d, pv d x2 = x2 := fun d => (own_vals (w2_2)).2 d
      have gv3 : gv x2 = some x2 := (own_vals (w2_2)).1
      have w3_3 : Own y3 ow (p ++ [i, 3]) (.list (a.stack.map eVal)) x3 := (w2_3).mono (keep_of yk3 (fun j q h1 h2 => absurd (pre_c h1 h2) (by omega)))
      have ix4 : idxV 6 (.slice id 0 l.length) (.int .i64 (i : Int)) y3 = some (.ptr id i 0) := idx_row hb3 hie rfl hi
      have ow4 := w3_3
      obtain ⟨y4, yr4, yo4, yk4⟩ := k_43 (mt := mt) a.stack (k0 + 1 + 1 + (cntL cntVal a.temps : Nat)) (h.2 a ham).2 (by omega) (by omega) (y3) ow (p ++ [i, 3]) x3 m ow4
      have hb4 : y4 id = some (es.set i [vi (k0), vi (k0 + 1), x2, x3, vi a.sender, .bool a.dead]) := by rw [yk4 id (fun q hq hp => by rw [hw] at hq; injection hq with hq; subst hq; exact not_pre2 hp)]; exact hb3
      have pv4 : ∀ d, pv d x3 = x3 := fun d => (own_vals (w3_3)).2 d
      have gv4 : gv x3 = some x3 := (own_vals (w3_3)).1
      have w4_2 : Own y4 ow (p ++ [i, 2]) (.list ((mkL mkVal cntVal (k0 + 1 + 1) a.temps).map eVal)) x2 := (yo3).mono (keep_of yk4 (fun j q h1 h2 => absurd (pre_c h1 h2) (by omega)))
      have ix5 : idxV 6 (.slice id 0 l.length) (.int .i64 (i : Int)) y4 = some (.ptr id i 0) := idx_row hb4 hie rfl hi
      have sr5 : stH 1 i 4 [vi (k0 + 1 + 1 + (cntL cntVal a.temps : Nat) + (cntL cntVal a.stack : Nat))] (some (es.set i [vi (k0), vi (k0 + 1), x2, x3, vi a.sender, .bool a.dead])) = some (es.set i [vi (k0), vi (k0 + 1), x2, x3, vi (k0 + 1 + 1 + (cntL cntVal a.temps : Nat) + (cntL cntVal a.stack : Nat)), .bool a.dead]) := st_row hie ⟨rfl, by simp⟩ rfl
      have hb5 : (updO y4 id (some (es.set i [vi (k0), vi (k0 + 1), x2, x3, vi (k0 + 1 + 1 + (cntL cntVal a.temps : Nat) + (cntL cntVal a.stack : Nat)), .bool a.dead]))) id = some (es.set i [vi (k0), vi (k0 + 1), x2, x3, vi (k0 + 1 + 1 + (cntL cntVal a.temps : Nat) + (cntL cntVal a.stack : Nat)), .bool a.dead]) := updO_same
      have w5_2 : Own (updO y4 id (some (es.set i [vi (k0), vi (k0 + 1), x2, x3, vi (k0 + 1 + 1 + (cntL cntVal a.temps : Nat) + (cntL cntVal a.stack : Nat)), .bool a.dead]))) ow (p ++ [i, 2]) (.list ((mkL mkVal cntVal (k0 + 1 + 1) a.temps).map eVal)) x2 := (w4_2).mono (Keep.refl.upd (fun q hq hp => by rw [hw] at hq; injection hq with hq; subst hq; exact not_pre2 hp))
      have w5_3 : Own (updO y4 id (some (es.set i [vi (k0), vi (k0 + 1), x2, x3, vi (k0 + 1 + 1 + (cntL cntVal a.temps : Nat) + (cntL cntVal a.stack : Nat)), .bool a.dead]))) ow (p ++ [i, 3]) (.list ((mkL mkVal cntVal (k0 + 1 + 1 + (cntL cntVal a.temps : Nat)) a.stack).map eVal)) x3 := (yo4).mono (Keep.refl.upd (fun q hq hp => by rw [hw] at hq; injection hq with hq; subst hq; exact not_pre2 hp))
      have ch5 : ∀ j, j ≠ id → (updO y4 id (some (es.set i [vi (k0), vi (k0 + 1), x2, x3, vi (k0 + 1 + 1 + (cntL cntVal a.temps : Nat) + (cntL cntVal a.stack : Nat)), .bool a.dead]))) j = (y4) j := fun j hj => updO_ne hj
      have kw5 : IntKind.i64.wrap ((k0 + 1 + 1 + (cntL cntVal a.temps : Nat) + (cntL cntVal a.stack : Nat)) + 1) = k0 + 1 + 1 + (cntL cntVal a.temps : Nat) + (cntL cntVal a.stack : Nat) + 1 := wrap_id (by omega) (by omega)
      have ix6 : idxV 6 (.slice id 0 l.length) (.int .i64 (i : Int)) (updO y4 id (some (es.set i [vi (k0), vi (k0 + 1), x2, x3, vi (k0 + 1 + 1 + (cntL cntVal a.temps : Nat) + (cntL cntVal a.stack : Nat)), .bool a.dead]))) = some (.ptr id i 0) := idx_row hb5 hie rfl hi
      have sr6 : stH 1 i 5 [.bool (decide ((k0 + 1 + 1 + (cntL cntVal a.temps : Nat) + (cntL cntVal a.stack : Nat) + 1).tmod 3 = 0))] (some (es.set i [vi (k0), vi (k0 + 1), x2, x3, vi (k0 + 1 + 1 + (cntL cntVal a.temps : Nat) + (cntL cntVal a.stack : Nat)), .bool a.dead])) = some (es.set i [vi (k0), vi (k0 + 1), x2, x3, vi (k0 + 1 + 1 + (cntL cntVal a.temps : Nat) + (cntL cntVal a.stack : Nat)), .bool (decide ((k0 + 1 + 1 + (cntL cntVal a.temps : Nat) + (cntL cntVal a.stack : Nat) + 1).tmod 3 = 0))]) := st_row hie ⟨rfl, by simp⟩ rfl
      have hb6 : (updO (updO y4 id (some (es.set i [vi (k0), vi (k0 + 1), x2, x3, vi (k0 + 1 + 1 + (cntL cntVal a.temps : Nat) + (cntL cntVal a.stack : Nat)), .bool a.dead]))) id (some (es.set i [vi (k0), vi (k0 + 1), x2, x3, vi (k0 + 1 + 1 + (cntL cntVal a.temps : Nat) + (cntL cntVal a.stack : Nat)), .bool (decide ((k0 + 1 + 1 + (cntL cntVal a.temps : Nat) + (cntL cntVal a.stack : Nat) + 1).tmod 3 = 0))]))) id = some (es.set i [vi (k0), vi (k0 + 1), x2, x3, vi (k0 + 1 + 1 + (cntL cntVal a.temps : Nat) + (cntL cntVal a.stack : Nat)), .bool (decide ((k0 + 1 + 1 + (cntL cntVal a.temps : Nat) + (cntL cntVal a.stack : Nat) + 1).tmod 3 = 0))]) := updO_same
      have w6_2 : Own (updO (updO y4 id (some (es.set i [vi (k0), vi (k0 + 1), x2, x3, vi (k0 + 1 + 1 + (cntL cntVal a.temps : Nat) + (cntL cntVal a.stack : Nat)), .bool a.dead]))) id (some (es.set i [vi (k0), vi (k0 + 1), x2, x3, vi (k0 + 1 + 1 + (cntL cntVal a.temps : Nat) + (cntL cntVal a.stack : Nat)), .bool (decide ((k0 + 1 + 1 + (cntL cntVal a.temps : Nat) + (cntL cntVal a.stack : Nat) + 1).tmod 3 = 0))]))) ow (p ++ [i, 2]) (.list ((mkL mkVal cntVal (k0 + 1 + 1) a.temps).map eVal)) x2 := (w5_2).mono (Keep.refl.upd (fun q hq hp => by rw [hw] at hq; injection hq with hq; subst hq; exact not_pre2 hp))
      have w6_3 : Own (updO (updO y4 id (some (es.set i [vi (k0), vi (k0 + 1), x2, x3, vi (k0 + 1 + 1 + (cntL cntVal a.temps : Nat) + (cntL cntVal a.stack : Nat)), .bool a.dead]))) id (some (es.set i [vi (k0), vi (k0 + 1), x2, x3, vi (k0 + 1 + 1 + (cntL cntVal a.temps : Nat) + (cntL cntVal a.stack : Nat)), .bool (decide ((k0 + 1 + 1 + (cntL cntVal a.temps : Nat) + (cntL cntVal a.stack : Nat) + 1).tmod 3 = 0))]))) ow (p ++ [i, 3]) (.list ((mkL mkVal cntVal (k0 + 1 + 1 + (cntL cntVal a.temps : Nat)) a.stack).map eVal)) x3 := (w5_3).mono (Keep.refl.upd (fun q hq hp => by rw [hw] at hq; injection hq with hq; subst hq; exact not_pre2 hp))
      have ch6 : ∀ j, j ≠ id → (updO (updO y4 id (some (es.set i [vi (k0), vi (k0 + 1), x2, x3, vi (k0 + 1 + 1 + (cntL cntVal a.temps : Nat) + (cntL cntVal a.stack : Nat)), .bool a.dead]))) id (some (es.set i [vi (k0), vi (k0 + 1), x2, x3, vi (k0 + 1 + 1 + (cntL cntVal a.temps : Nat) + (cntL cntVal a.stack : Nat)), .bool (decide ((k0 + 1 + 1 + (cntL cntVal a.temps : Nat) + (cntL cntVal a.stack : Nat) + 1).tmod 3 = 0))]))) j = (updO y4 id (some (es.set i [vi (k0), vi (k0 + 1), x2, x3, vi (k0 + 1 + 1 + (cntL cntVal a.temps : Nat) + (cntL cntVal a.stack : Nat)), .bool a.dead]))) j := fun j hj => updO_ne hj
      have kw6 : IntKind.i64.wrap ((k0 + 1 + 1 + (cntL cntVal a.temps : Nat) + (cntL cntVal a.stack : Nat) + 1) + 1) = k0 + 1 + 1 + (cntL cntVal a.temps : Nat) + (cntL cntVal a.stack : Nat) + 1 + 1 := wrap_id (by omega) (by omega)
      have hkE : k + cntL cntCall (l.take (i + 1)) = k0 + 1 + 1 + (cntL cntVal a.temps : Nat) + (cntL cntVal a.stack : Nat) + 1 + 1 := by rw [hct, hca]; omega
      have nx := next () ⟨m, updO (updO y4 id (some (es.set i [vi (k0), vi (k0 + 1), x2, x3, vi (k0 + 1 + 1 + (cntL cntVal a.temps : Nat) + (cntL cntVal a.stack : Nat)), .bool a.dead]))) id (some (es.set i [vi (k0), vi (k0 + 1), x2, x3, vi (k0 + 1 + 1 + (cntL cntVal a.temps : Nat) + (cntL cntVal a.stack : Nat)), .bool (decide ((k0 + 1 + 1 + (cntL cntVal a.temps : Nat) + (cntL cntVal a.stack : Nat) + 1).tmod 3 = 0))]))⟩ ⟨rfl, ?_, ?_⟩
      · rw [hkE] at nx
        simp [b_42_0, hc, hwr, gs, ix1, hb0, sr1, kw1, ix2, hb1, sr2, kw2, ix3, yr3, hb2, pv3, gv3, ix4, yr4, hb3, pv4, gv4, ix5, hb4, sr5, kw5, ix6, hb5, sr6, kw6]
        simpa using nx
      · rw [mix_succ ha, hk0, List.map_set]
        refine ho1.setRow (g := g1) (by rw [hg]) (by rw [List.length_map, mix_len k l i (by omega)]; exact hi) hb6 hw ?_ ?_
        · exact ⟨own_i (by first | rfl | (simp only [mkCall]; omega)), own_i (by first | rfl | (simp only [mkCall]; omega)), own_l (by congr 2; simp only [mkCall]; congr 1; omega) (w6_2), own_l (by congr 2; simp only [mkCall]; congr 1; omega) (w6_3), own_i (by first | rfl | (simp only [mkCall]; omega)), own_b (by rw [Int.tmod_eq_emod_of_nonneg (by omega)]; simp only [mkCall]; apply decide_eq_decide.2; omega), trivial⟩
        · exact ((((((Keep.refl).upd (fun q hq hp => by rw [hw] at hq; injection hq with hq; subst hq; obtain ⟨t, _, h1⟩ := hp; exact not_pre h1)).upd (fun q hq hp => by rw [hw] at hq; injection hq with hq; subst hq; obtain ⟨t, _, h1⟩ := hp; exact not_pre h1)).trans (keep_of (P := fun _ q => ∃ t, t ≠ i ∧ p ++ [t] <+: q) yk3 (fun j q h1 h2 => by obtain ⟨t, ht, h1⟩ := h1; exact ht (pre_i h1 h2))) (fun _ _ _ h => h)).trans (keep_of (P := fun _ q => ∃ t, t ≠ i ∧ p ++ [t] <+: q) yk4 (fun j q h1 h2 => by obtain ⟨t, ht, h1⟩ := h1; exact ht (pre_i h1 h2))) (fun _ _ _ h => h)).upd (fun q hq hp => by rw [hw] at hq; injection hq with hq; subst hq; obtain ⟨t, _, h1⟩ := hp; exact not_pre h1)).upd (fun q hq hp => by rw [hw] at hq; injection hq with hq; subst hq; obtain ⟨t, _, h1⟩ := hp; exact not_pre h1)
      · intro j hj
        have hjn : j ≠ id := by rintro rfl; exact hj p hw (List.prefix_refl _)
        have hjp : ∀ c q, ow j = some q → ¬ p ++ [i, c] <+: q := fun c q hq hp => hj q hq ((List.prefix_append _ _).trans hp)
        show (updO (updO y4 id (some (es.set i [vi (k0), vi (k0 + 1), x2, x3, vi (k0 + 1 + 1 + (cntL cntVal a.temps : Nat) + (cntL cntVal a.stack : Nat)), .bool a.dead]))) id (some (es.set i [vi (k0), vi (k0 + 1), x2, x3, vi (k0 + 1 + 1 + (cntL cntVal a.temps : Nat) + (cntL cntVal a.stack : Nat)), .bool (decide ((k0 + 1 + 1 + (cntL cntVal a.temps : Nat) + (cntL cntVal a.stack : Nat) + 1).tmod 3 = 0))]))) j = g j
        rw [ch6 j hjn, ch5 j hjn, yk4 j (hjp 3), yk3 j (hjp 2), ch2 j hjn, ch1 j hjn]
        exact hg1 j hj
end Go.Ai
set_option linter.unusedSimpArgs false
set_option linter.unusedVariables false
namespace Go.Ai
variable {mt : Nat → Nat → Option Nat}
attribute [local simp] cnd_ite gS_ite callBy_whole
theorem d_208 (l : List GVal) (k : Int) (h : l.length ≤ 2097152) (hk : 0 ≤ k) (hK : k + cntL cntVal l ≤ 9000000000000000000) (K : Nat) : Gv K (vi (k + cntL cntVal l)) (run AP mt 208 [(.list ((mkL mkVal cntVal k l).map eVal)), vi k] ⟨K, noObj⟩) := by
  have hz0 : AVal.int .i64 k = AVal.int .i64 (k + (cntL cntVal (l.take 0) : Nat)) := by simp [cntL]
  have hll : l.length ≤ 2097152 := h
  have hmL := mkL_len (mk := mkVal) (cnt := cntVal) l k
  rw [run_evS AP_208 _ _ rfl]
  simp [c_208]
  rw [hz0]
  refine loop_for (Gv K (vi (k + cntL cntVal l))) l.length (fun i (s : Unit) => upd (upd (upd fr0 5 (vi i)) 1 (vi (k + cntL cntVal (l.take i)))) 0 (.list ((mkL mkVal cntVal k l).map eVal))) (fun i _ G => K ≤ G.next ∧ G.obj = noObj) (fun _ _ _ => u_208_0) ?_ ?_ l.length 0 () ⟨K, noObj⟩ (by omega) ⟨Nat.le_refl _, rfl⟩
  · rintro _ ⟨m, g1⟩ ⟨hm, rfl⟩
    have ht : l.take l.length = l := List.take_length
    simp [b_208_0, hmL]
    exact Gv.some hm rfl
  · rintro i _ ⟨m, g1⟩ hi ⟨hm, rfl⟩ next
    obtain ⟨a, ha⟩ : ∃ a, l[i]? = some a := ⟨_, List.getElem?_eq_getElem hi⟩
    have ham := List.mem_of_getElem? ha
    have hc : (i : Int) < l.length := by omega
    have hwr : IntKind.i64.wrap ((i : Int) + 1) = (i : Int) + 1 := wrap_id (by omega) (by omega)
    have hct := cntL_take (cnt := cntVal) l i a ha
    have hcl := cntL_le (cnt := cntVal) l (i + 1)
    have hca : cntVal a = 2 := rfl
    have hmg := mkL_get (mk := mkVal) (cnt := cntVal) l k i a ha
    have hix := fun g => idx_ok (g := g) (k := .i64) (w_map (f := eVal) (z := 2) (fun _ => rfl) (mkL mkVal cntVal k l)) (show (0:Int) ≤ i by omega) (by rw [List.length_map, hmL]; exact hc)
    generalize hk0 : k + cntL cntVal (l.take i) = k0 at *
    have hk00 : 0 ≤ k0 := by omega
    have hm0 : (mkVal k0 a).kind = k0 := by first | rfl | (simp only [mkVal]; omega)
    have kw0 : IntKind.i64.wrap (k0 + 1) = k0 + 1 := wrap_id (by omega) (by omega)
    have hm1 : (mkVal k0 a).num = k0 + 1 := by first | rfl | (simp only [mkVal]; omega)
    have kw1 : IntKind.i64.wrap ((k0 + 1) + 1) = k0 + 1 + 1 := wrap_id (by omega) (by omega)
    have hkE : k + cntL cntVal (l.take (i + 1)) = k0 + 1 + 1 := by rw [hct, hca]; omega
    have nx := fun m h => next () ⟨m, noObj⟩ ⟨h, rfl⟩
    rw [hkE] at nx
    simp [b_208_0, hc, hwr, hix, hmg, hmL, hm0, kw0, hm1, kw1]
    simpa using nx _ (by repeat (first | exact hm | apply le_nxt))
theorem d_207 (l : List GCall) (k : Int) (h : l.length ≤ 2097152 ∧ ∀ m ∈ l, m.temps.length ≤ 2097152 ∧ m.stack.length ≤ 2097152) (hk : 0 ≤ k) (hK : k + cntL cntCall l ≤ 9000000000000000000) (K : Nat) : Gv K (vi (k + cntL cntCall l)) (run AP mt 207 [(.list ((mkL mkCall cntCall k l).map eCall)), vi k] ⟨K, noObj⟩) := by
  have hz0 : AVal.int .i64 k = AVal.int .i64 (k + (cntL cntCall (l.take 0) : Nat)) := by simp [cntL]
  have hll : l.length ≤ 2097152 := h.1
  have hmL := mkL_len (mk := mkCall) (cnt := cntCall) l k
  rw [run_evS AP_207 _ _ rfl]
  simp [c_207]
  rw [hz0]
  refine loop_for (Gv K (vi (k + cntL cntCall l))) l.length (fun i (s : Unit) => upd (upd (upd fr0 5 (vi i)) 1 (vi (k + cntL cntCall (l.take i)))) 0 (.list ((mkL mkCall cntCall k l).map eCall))) (fun i _ G => K ≤ G.next ∧ G.obj = noObj) (fun _ _ _ => u_207_0) ?_ ?_ l.length 0 () ⟨K, noObj⟩ (by omega) ⟨Nat.le_refl _, rfl⟩
  · rintro _ ⟨m, g1⟩ ⟨hm, rfl⟩
    have ht : l.take l.length = l := List.take_length
    simp [b_207_0, hmL]
    exact Gv.some hm rfl
  · rintro i _ ⟨m, g1⟩ hi ⟨hm, rfl⟩ next
    obtain ⟨a, ha⟩ : ∃ a, l[i]? = some a := ⟨_, List.getElem?_eq_getElem hi⟩
    have ham := List.mem_of_getElem? ha
    have hc : (i : Int) < l.length := by omega
    have hwr : IntKind.i64.wrap ((i : Int) + 1) = (i : Int) + 1 := wrap_id (by omega) (by omega)
    have hct := cntL_take (cnt := cntCall) l i a ha
    have hcl := cntL_le (cnt := cntCall) l (i + 1)
    have hca : cntCall a = 4 + cntL cntVal a.temps + cntL cntVal a.stack := rfl
    have hmg := mkL_get (mk := mkCall) (cnt := cntCall) l k i a ha
    have hix := fun g => idx_ok (g := g) (k := .i64) (w_map (f := eCall) (z := 6) (fun _ => rfl) (mkL mkCall cntCall k l)) (show (0:Int) ≤ i by omega) (by rw [List.length_map, hmL]; exact hc)
    generalize hk0 : k + cntL cntCall (l.take i) = k0 at *
    have hk00 : 0 ≤ k0 := by omega
    have hm0 : (mkCall k0 a).method = k0 := by first | rfl | (simp only [mkCall]; omega)
    have kw0 : IntKind.i64.wrap (k0 + 1) = k0 + 1 := wrap_id (by omega) (by omega)
    have hm1 : (mkCall k0 a).pc = k0 + 1 := by first | rfl | (simp only [mkCall]; omega)
    have kw1 : IntKind.i64.wrap ((k0 + 1) + 1) = k0 + 1 + 1 := wrap_id (by omega) (by omega)
    have hm2 : (mkCall k0 a).temps = mkL mkVal cntVal (k0 + 1 + 1) a.temps := by simp only [mkCall]; congr 1; omega
    have q2 : QQ AP mt 208 [.list ((mkL mkVal cntVal (k0 + 1 + 1) a.temps).map eVal), vi (k0 + 1 + 1)] (vi (k0 + 1 + 1 + (cntL cntVal a.temps : Nat))) := QQ.of rfl (d_208 (mt := mt) a.temps (k0 + 1 + 1) (h.2 a ham).1 (by omega) (by omega))
    unfold QQ at q2
    have kn2 : ¬ (k0 + 1 + 1 + (cntL cntVal a.temps : Nat) < 0) := by omega
    have hm3 : (mkCall k0 a).stack = mkL mkVal cntVal (k0 + 1 + 1 + (cntL cntVal a.temps : Nat)) a.stack := by simp only [mkCall]; congr 1; omega
    have q3 : QQ AP mt 208 [.list ((mkL mkVal cntVal (k0 + 1 + 1 + (cntL cntVal a.temps : Nat)) a.stack).map eVal), vi (k0 + 1 + 1 + (cntL cntVal a.temps : Nat))] (vi (k0 + 1 + 1 + (cntL cntVal a.temps : Nat) + (cntL cntVal a.stack : Nat))) := QQ.of rfl (d_208 (mt := mt) a.stack (k0 + 1 + 1 + (cntL cntVal a.temps : Nat)) (h.2 a ham).2 (by omega) (by omega))
    unfold QQ at q3
    have kn3 : ¬ (k0 + 1 + 1 + (cntL cntVal a.temps : Nat) + (cntL cntVal a.stack : Nat) < 0) := by omega
    have hm4 : (mkCall k0 a).sender = k0 + 1 + 1 + (cntL cntVal a.temps : Nat) + (cntL cntVal a.stack : Nat) := by first | rfl | (simp only [mkCall]; omega)
    have kw4 : IntKind.i64.wrap ((k0 + 1 + 1 + (cntL cntVal a.temps : Nat) + (cntL cntVal a.stack : Nat)) + 1) = k0 + 1 + 1 + (cntL cntVal a.temps : Nat) + (cntL cntVal a.stack : Nat) + 1 := wrap_id (by omega) (by omega)
    have hm5 : (mkCall k0 a).dead = decide ((k0 + 1 + 1 + (cntL cntVal a.temps : Nat) + (cntL cntVal a.stack : Nat) + 1).tmod 3 = 0) := by rw [Int.tmod_eq_emod_of_nonneg (by omega)]; simp only [mkCall]; apply decide_eq_decide.2; omega
    have kw5 : IntKind.i64.wrap ((k0 + 1 + 1 + (cntL cntVal a.temps : Nat) + (cntL cntVal a.stack : Nat) + 1) + 1) = k0 + 1 + 1 + (cntL cntVal a.temps : Nat) + (cntL cntVal a.stack : Nat) + 1 + 1 := wrap_id (by omega) (by omega)
    have hkE : k + cntL cntCall (l.take (i + 1)) = k0 + 1 + 1 + (cntL cntVal a.temps : Nat) + (cntL cntVal a.stack : Nat) + 1 + 1 := by rw [hct, hca]; omega
    have nx := fun m h => next () ⟨m, noObj⟩ ⟨h, rfl⟩
    rw [hkE] at nx
    simp [b_207_0, hc, hwr, hix, hmg, hmL, hm0, kw0, hm1, kw1, hm2, q2, kn2, hm3, q3, kn3, hm4, kw4, hm5, kw5]
    simpa using nx _ (by repeat (first | exact hm | apply le_nxt))
end Go.Ai
