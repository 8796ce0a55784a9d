/- Whether lowered code fits the program: regions, code, functions. -/
import Derived.Test.YtffliemhdjcflaaAiK1
set_option linter.unusedVariables false
set_option linter.unusedSimpArgs false
namespace Go.Ai
variable (M : SM)
def grdOk (ops : Array Oper) : Option (Nat × Bool) → Option (Nat × Bool) → Bool
  | none, none => true
  | some (s, w), some (jj, w') => w == w' && (ops[jj]?).bind (·.dst) == some s
  | _, _ => false
def chkI (bx : List Nat) (N : Nat) (ops : Array Oper) (i : AI) : Bool := match ops[i.j]? with
  | some o => i.dst == o.dst && chkA M bx N o.dst i.op o.op && grdOk ops i.grd o.guard && (!i.op.isBox || i.grd.isNone)
  | none => false
def isFree (i : AI) : Bool := match i with
  | ⟨0, none, none, .free _⟩ => true
  | _ => false
def isAgain (i : AI) : Bool := match i.op with
  | .again _ _ => i.dst.isNone
  | _ => false
def cutF : List AI → List AI × List AI
  | [] => ([], [])
  | i :: is => if isFree i then ([], i :: is) else ((i :: (cutF is).1), (cutF is).2)
/-- An operation with what is looked at again behind it. -/
def grp : List AI → List Grp
  | [] => []
  | i :: is => match grp is with
    | [] => [(i, [])]
    | g :: gs => if isAgain g.1 then (i, g.1 :: g.2) :: gs else (i, []) :: g :: gs
theorem grp_flat : ∀ is : List AI, flat (grp is) = is := by
  intro is
  induction is with
  | nil => rfl
  | cons i is ih =>
    simp only [grp]
    cases hg : grp is with
    | nil =>
      rw [hg] at ih
      simp only [flat, List.flatMap_nil] at ih
      subst ih
      rfl
    | cons g gs =>
      rw [hg] at ih
      simp only [flat, List.flatMap_cons] at ih
      simp only
      split
      · simp only [flat, List.flatMap_cons]; rw [← ih]; simp
      · simp only [flat, List.flatMap_cons]; rw [← ih]; simp
theorem cutF_eq : ∀ is : List AI, (cutF is).1 ++ (cutF is).2 = is := by
  intro is
  induction is with
  | nil => rfl
  | cons i is ih =>
    simp only [cutF]
    split
    · rfl
    · simp [ih]
def isT (t : Nat) : Opd → Bool
  | .t n => n == t
  | _ => false
def noPC : Opd → Bool
  | .c (.pptr _ _) => false
  | _ => true
def offS (i : AI) (t : Nat) : Bool := i.op.opds.all (fun x => !isT t x) && (match i.grd with | some (s, _) => s != t | none => true) && i.dst != some t && i.op.opds.all noPC
def offSd (i : AI) : Option Nat → Bool
  | none => true
  | some t => offS i t
def opdEq : Opd → Opd → Bool
  | .t n, .t m => n == m
  | .c (.int k n), .c (.int k' n') => decide (k = k') && decide (n = n')
  | _, _ => false
def opdoEq : Option Opd → Option Opd → Bool
  | none, none => true
  | some x, some y => opdEq x y
  | _, _ => false
def memEq : AOp → AOp → Bool
  | .load k x, .load k' x' => k == k' && opdEq x x'
  | .idx z x i, .idx z' x' i' => z == z' && opdEq x x' && opdEq i i'
  | .sl z x lo hi, .sl z' x' lo' hi' => z == z' && opdEq x x' && opdoEq lo lo' && opdoEq hi hi'
  | _, _ => false
def againEq (a i : AI) (t : Nat) : Bool := a.j == i.j && a.dst.isNone && a.grd == i.grd && (match a.op with | .again t' o => t' == t && memEq o i.op | _ => false)
def swB (q p : AI) : Bool := offSd q p.dst && offSd p q.dst && ((q.op.simple && p.op.simple) || (q.op.simple && !p.op.simple) || (!q.op.simple && p.op.pure))
def okgB (bx : List Nat) (g : Grp) : Bool :=
  ((!g.1.op.isBox || g.1.grd.isNone) && (g.1.op.isBox || (match g.1.dst with | some t => !bx.contains t | none => true))) &&
  (!g.1.op.mem || (match g.1.dst with | some t => g.1.op.opds.all (fun x => !isT t x) && (match g.1.grd with | some (s, _) => s != t | none => true) | none => false)) &&
  g.1.op.opds.all noPC && (!g.1.op.simple || g.2.isEmpty) && g.2.all isAgain
def pw {α : Type} (r : α → α → Bool) : List α → Bool
  | [] => true
  | x :: xs => xs.all (r x) && pw r xs
def dirs (ops : Array Oper) (i : Nat) : List Nat := match ops[i]? with
  | some o => (o.after.toList.filter fun e => Region.binds .any e).map (·.on)
  | none => []
def maskOf (acc : List Nat) : List Nat → Nat
  | [] => 0
  | d :: ds => (2 ^ d ||| acc.getD d 0) ||| maskOf acc ds
/-- What each operation waits for, by others too. -/
def befs (ops : Array Oper) : Nat → List Nat
  | 0 => []
  | n + 1 => let acc := befs ops n; acc ++ [maskOf acc (dirs ops n)]
def pairB (bs : List Nat) (x y : Grp) : Bool :=
  (bs.getD y.1.j 0).testBit x.1.j || (swB x.1 y.1 && x.2.all (fun a => offSd a y.1.dst) && (!x.1.op.mem || y.1.op.simple || (match x.1.dst with | some t => y.2.any fun a => againEq a x.1 t | none => true)))
def pair2B (m q : Grp) : Bool := !m.1.op.mem || !q.1.op.simple || offSd m.1 q.1.dst
def drawnB (bx : List Nat) (N : Nat) (ops : Array Oper) (gs : List Grp) : Bool :=
  gs.all (fun g => chkI M bx N ops g.1 && okgB bx g && !(dirs ops g.1.j).contains g.1.j) && gs.length == ops.size && (List.range ops.size).all (fun i => gs.any (fun g => g.1.j == i)) &&
  pw (fun x y => x.1.j != y.1.j && !(dirs ops x.1.j).contains y.1.j) gs && (List.range ops.size).all (fun i => (dirs ops i).all fun k => decide (k < ops.size)) &&
  pw (pairB (befs ops ops.size)) gs && pw pair2B gs
def chkC (bx : List Nat) (N : Nat) : AC → Code → Bool
  | .skip, .skip => true
  | .ret, .ret => true
  | .exit id, .exit id' => id == id'
  | .seq a b, .seq A B => chkC bx N a A && chkC bx N b B
  | .cond c a b, .cond X A B => opR M c X && chkC bx N a A && chkC bx N b B
  | .block id a, .block id' A => id == id' && chkC bx N a A
  | .loop a, .loop A => chkC bx N a A
  | .reg is _, .region _ ops false => (cutF is).1.map (·.j) == List.range ops.size && (cutF is).1.all (chkI M bx N ops) && (cutF is).2.all isFree
  | .reg is _, .region _ ops true => drawnB M bx N ops (grp (cutF is).1) && (cutF is).2.all isFree
  | _, _ => false
def resP : ARes → ResultVar → Bool
  | .t n, .tmp m => n == m
  | .c d k, .cell d' t => d == d' && ldT M k t
  | _, _ => false
def chkFn (af : AFn) (fn : Func) : Bool := decide (af.np ≤ fn.ntmps) && (match fn.body with | some c => chkC M af.bx fn.ntmps af.body c | none => false) && all2 (resP M) af.res fn.results.toList
section
variable {M : SM}
theorem grdOk_ok {ops : Array Oper} {g o : Option (Nat × Bool)} (h : grdOk ops g o = true) : GrdOk ops g o := by
  unfold grdOk at h
  split at h
  · exact .none
  · rename_i s w jj w'
    simp only [Bool.and_eq_true, beq_iff_eq] at h
    obtain ⟨rfl, h2⟩ := h
    simp only [Option.bind_eq_some_iff] at h2
    obtain ⟨og, h3, h4⟩ := h2
    exact .some s w jj og h3 h4
  · cases h
theorem chkI_ok {bx : List Nat} {N : Nat} {ops : Array Oper} {i : AI} (h : chkI M bx N ops i = true) : ∃ o, OpI M bx N ops i o := by
  unfold chkI at h
  split at h
  · rename_i o ho
    simp only [Bool.and_eq_true, beq_iff_eq] at h
    obtain ⟨⟨⟨h1, h2⟩, h3⟩, h4⟩ := h
    refine ⟨o, ho, h1, chkA_ok h2, grdOk_ok h3, fun hb => ?_⟩
    simpa [hb] using h4
  · cases h
theorem frees_ok {fs : List AI} (h : fs.all isFree = true) : Frees fs := by
  intro f hf
  have := List.all_eq_true.1 h f hf
  unfold isFree at this
  split at this
  · exact ⟨_, rfl⟩
  · cases this
theorem gh_ok {a : AI} (h : isAgain a = true) : Gh a := by
  unfold isAgain at h
  split at h
  · rename_i t o ho; exact ⟨by simpa using h, t, o, ho⟩
  · cases h
theorem isT_ok {t : Nat} {x : Opd} (h : (!isT t x) = true) : x ≠ .t t := by
  rintro rfl
  simp [isT] at h
theorem noPC_ok {x : Opd} (h : noPC x = true) : NoPC x := by
  intro d c e
  subst e
  simp [noPC] at h
theorem offS_ok {i : AI} {t : Nat} (h : offS i t = true) : OffS i t := by
  simp only [offS, Bool.and_eq_true, List.all_eq_true, bne_iff_ne] at h
  obtain ⟨⟨⟨h1, h2⟩, h3⟩, h4⟩ := h
  refine ⟨fun x hx => isT_ok (h1 x hx), fun s w hg => ?_, h3, fun x hx => noPC_ok (h4 x hx)⟩
  rw [hg] at h2
  simpa using h2
theorem offSd_ok {i : AI} {d : Option Nat} (h : offSd i d = true) : ∀ t, d = some t → OffS i t := by
  intro t ht
  subst ht
  exact offS_ok h
theorem opdEq_ok {x y : Opd} (h : opdEq x y = true) : x = y := by
  unfold opdEq at h
  split at h
  · simp only [beq_iff_eq] at h; rw [h]
  · simp only [Bool.and_eq_true, decide_eq_true_eq] at h; rw [h.1, h.2]
  · cases h
theorem opdoEq_ok {x y : Option Opd} (h : opdoEq x y = true) : x = y := by
  unfold opdoEq at h
  split at h
  · rfl
  · rw [opdEq_ok h]
  · cases h
theorem memEq_ok {x y : AOp} (h : memEq x y = true) : x = y := by
  unfold memEq at h
  split at h
  · simp only [Bool.and_eq_true, beq_iff_eq] at h; rw [h.1, opdEq_ok h.2]
  · simp only [Bool.and_eq_true, beq_iff_eq] at h; rw [h.1.1, opdEq_ok h.1.2, opdEq_ok h.2]
  · simp only [Bool.and_eq_true, beq_iff_eq] at h; rw [h.1.1.1, opdEq_ok h.1.1.2, opdoEq_ok h.1.2, opdoEq_ok h.2]
  · cases h
theorem againEq_ok {a i : AI} {t : Nat} (h : againEq a i t = true) : a = againOf i t := by
  obtain ⟨j, d, g, o⟩ := a
  simp only [againEq, Bool.and_eq_true, beq_iff_eq, Option.isNone_iff_eq_none] at h
  obtain ⟨⟨⟨h1, h2⟩, h3⟩, h4⟩ := h
  split at h4
  · simp only [Bool.and_eq_true, beq_iff_eq] at h4
    rw [h1, h2, h3, h4.1, memEq_ok h4.2]
    rfl
  · cases h4
theorem pw_ok {α : Type} {r : α → α → Bool} : ∀ {xs : List α}, pw r xs = true → xs.Pairwise fun x y => r x y = true := by
  intro xs
  induction xs with
  | nil => intro _; exact .nil
  | cons x xs ih =>
    intro h
    simp only [pw, Bool.and_eq_true, List.all_eq_true] at h
    exact .cons h.1 (ih h.2)
theorem dirs_iff {ops : Array Oper} {i k : Nat} : k ∈ dirs ops i ↔ Dir ops i k := by
  unfold dirs Dir
  constructor
  · intro h
    split at h
    · rename_i o ho
      simp only [List.mem_map, List.mem_filter, Array.mem_toList_iff] at h
      obtain ⟨e, ⟨he, hb⟩, rfl⟩ := h
      exact ⟨o, ho, e, he, hb, rfl⟩
    · cases h
  · rintro ⟨o, ho, e, he, hb, rfl⟩
    rw [ho]
    simp only [List.mem_map, List.mem_filter, Array.mem_toList_iff]
    exact ⟨e, ⟨he, hb⟩, rfl⟩
theorem maskOf_bit {ops : Array Oper} {acc : List Nat} (hacc : ∀ d k, (acc.getD d 0).testBit k = true → Deps ops d k) {i : Nat} : ∀ (ds : List Nat), (∀ d ∈ ds, Dir ops i d) → ∀ k, (maskOf acc ds).testBit k = true → Deps ops i k := by
  intro ds
  induction ds with
  | nil => intro _ k h; simp [maskOf] at h
  | cons d ds ih =>
    intro hd k h
    simp only [maskOf, Nat.testBit_or, Bool.or_eq_true] at h
    rcases h with (h | h) | h
    · rw [Nat.testBit_two_pow] at h
      simp only [decide_eq_true_eq] at h
      subst h
      exact .one _ _ (hd _ (List.mem_cons_self ..))
    · exact .step _ _ _ (hd d (List.mem_cons_self ..)) (hacc d k h)
    · exact ih (fun d' hd' => hd d' (List.mem_cons_of_mem _ hd')) k h
theorem befs_len {ops : Array Oper} : ∀ n, (befs ops n).length = n := by
  intro n
  induction n with
  | zero => rfl
  | succ n ih => simp [befs, ih]
theorem befs_ok {ops : Array Oper} : ∀ n d k, ((befs ops n).getD d 0).testBit k = true → Deps ops d k := by
  intro n
  induction n with
  | zero => intro d k h; simp [befs] at h
  | succ n ih =>
    intro d k h
    simp only [befs] at h
    by_cases hd : d < n
    · rw [List.getD_eq_getElem?_getD, List.getElem?_append_left (by rw [befs_len]; exact hd), ← List.getD_eq_getElem?_getD] at h
      exact ih d k h
    · rw [List.getD_eq_getElem?_getD, List.getElem?_append_right (by rw [befs_len]; omega), befs_len] at h
      by_cases he : d = n
      · subst he
        simp only [Nat.sub_self, List.getElem?_cons_zero, Option.getD_some] at h
        exact maskOf_bit ih (dirs ops d) (fun d' hd' => dirs_iff.1 hd') k h
      · obtain ⟨m, hm⟩ : ∃ m, d - n = m + 1 := ⟨d - n - 1, by omega⟩
        rw [hm] at h
        simp at h
theorem swB_ok {q p : AI} (h : swB q p = true) : Sw q p := by
  simp only [swB, Bool.and_eq_true, Bool.or_eq_true, Bool.not_eq_true'] at h
  obtain ⟨⟨h1, h2⟩, h3⟩ := h
  refine ⟨offSd_ok h1, offSd_ok h2, ?_⟩
  rcases h3 with (h3 | h3) | h3
  · exact .inl h3
  · exact .inr (.inl h3)
  · exact .inr (.inr h3)
theorem okgB_ok {bx : List Nat} {g : Grp} (h : okgB bx g = true) : Okg bx g.1 ∧ (g.1.op.simple = true → g.2 = []) ∧ ∀ a ∈ g.2, Gh a := by
  simp only [okgB, Bool.and_eq_true, Bool.or_eq_true, Bool.not_eq_true', Option.isNone_iff_eq_none, List.all_eq_true, List.isEmpty_iff] at h
  obtain ⟨⟨⟨⟨⟨h1, h2⟩, h3⟩, h4⟩, h5⟩, h6⟩ := h
  refine ⟨⟨⟨fun hb => ?_, fun hb t ht => ?_⟩, fun hm => ?_, fun x hx => noPC_ok (h4 x hx)⟩, fun hs => ?_, fun a ha => gh_ok (h6 a ha)⟩
  · rcases h1 with h1 | h1
    · rw [hb] at h1; cases h1
    · exact h1
  · rcases h2 with h2 | h2
    · rw [hb] at h2; cases h2
    · rw [ht] at h2
      simpa using h2
  · rcases h3 with h3 | h3
    · rw [hm] at h3; cases h3
    · split at h3
      · rename_i t ht
        simp only [Bool.and_eq_true, List.all_eq_true] at h3
        refine ⟨t, ht, fun x hx => isT_ok (h3.1 x hx), fun s w hg => ?_⟩
        have h7 := h3.2
        rw [hg] at h7
        simpa using h7
      · cases h3
  · rcases h5 with h5 | h5
    · rw [hs] at h5; cases h5
    · exact h5
theorem drawnB_ok {bx : List Nat} {N : Nat} {ops : Array Oper} {gs : List Grp} (h : drawnB M bx N ops gs = true) : DrawnOk M bx N ops gs := by
  simp only [drawnB, Bool.and_eq_true, List.all_eq_true, beq_iff_eq, List.any_eq_true, List.mem_range, decide_eq_true_eq, Bool.not_eq_true', List.contains_eq_mem, decide_eq_false_iff_not] at h
  obtain ⟨⟨⟨⟨⟨⟨h1, h2⟩, h3⟩, h4⟩, h5⟩, h6⟩, h7⟩ := h
  have h4' := pw_ok h4
  refine ⟨fun g hg => chkI_ok (h1 g hg).1.1, fun g hg => okgB_ok (h1 g hg).1.2, h2, h3, ?_, ?_, fun g hg hd => (h1 g hg).2 (dirs_iff.2 hd), fun i k hd => ?_, ?_, ?_⟩
  · exact h4'.imp fun hh => by simp only [Bool.and_eq_true, bne_iff_ne] at hh; exact hh.1
  · exact h4'.imp fun hh => by
      simp only [Bool.and_eq_true, Bool.not_eq_true', List.contains_eq_mem, decide_eq_false_iff_not] at hh
      exact fun hd => hh.2 (dirs_iff.2 hd)
  · obtain ⟨o, ho, _⟩ := id hd
    exact h5 i (Array.getElem?_eq_some_iff.1 ho).1 k (dirs_iff.2 hd)
  · refine (pw_ok h6).imp fun {x y} hh => ?_
    simp only [pairB, Bool.or_eq_true, Bool.and_eq_true, List.all_eq_true, Bool.not_eq_true'] at hh
    rcases hh with hh | ⟨⟨hh1, hh2⟩, hh3⟩
    · exact .inl (befs_ok _ _ _ hh)
    · refine .inr ⟨swB_ok hh1, fun a ha => offSd_ok (hh2 a ha), fun hm hs t ht => ?_⟩
      rcases hh3 with (hh3 | hh3) | hh3
      · rw [hm] at hh3; cases hh3
      · rw [hs] at hh3; cases hh3
      · rw [ht] at hh3
        simp only [List.any_eq_true] at hh3
        obtain ⟨a, ha, he⟩ := hh3
        rw [← againEq_ok he]
        exact ha
  · refine (pw_ok h7).imp fun {m q} hh hm hs => ?_
    simp only [pair2B, Bool.or_eq_true, Bool.not_eq_true'] at hh
    rcases hh with (hh | hh) | hh
    · rw [hm] at hh; cases hh
    · rw [hs] at hh; cases hh
    · exact offSd_ok hh
theorem chkC_ok {bx : List Nat} {N : Nat} : ∀ {ac : AC} {c : Code}, chkC M bx N ac c = true → CodeP M bx N ac c := by
  intro ac
  induction ac with
  | skip => intro c h; cases c <;> first | exact .skip | cases h
  | ret => intro c h; cases c <;> first | exact .ret | cases h
  | exit id => intro c h; cases c <;> first | (simp only [chkC, beq_iff_eq] at h; subst h; exact .exit id) | cases h
  | seq a b iha ihb => intro c h; cases c <;> first | (simp only [chkC, Bool.and_eq_true] at h; exact .seq _ _ _ _ (iha h.1) (ihb h.2)) | cases h
  | cond x a b iha ihb => intro c h; cases c <;> first | (simp only [chkC, Bool.and_eq_true] at h; exact .cond _ _ _ _ _ _ (opR_ok h.1.1) (iha h.1.2) (ihb h.2)) | cases h
  | block id a iha => intro c h; cases c <;> first | (simp only [chkC, Bool.and_eq_true, beq_iff_eq] at h; obtain ⟨rfl, h⟩ := h; exact .block _ _ _ (iha h)) | cases h
  | loop a iha => intro c h; cases c <;> first | (simp only [chkC] at h; exact .loop _ _ (iha h)) | cases h
  | reg is ks =>
    intro c h
    cases c <;> try (cases h; done)
    rename_i id ops dr
    cases dr with
    | false =>
      simp only [chkC, Bool.and_eq_true, beq_iff_eq, List.all_eq_true] at h
      obtain ⟨⟨h1, h2⟩, h3⟩ := h
      rw [← cutF_eq is]
      exact .reg _ _ ks id ops (fun i hi => chkI_ok (h2 i hi)) h1 (frees_ok (List.all_eq_true.2 h3))
    | true =>
      simp only [chkC, Bool.and_eq_true] at h
      rw [← cutF_eq is, ← grp_flat (cutF is).1]
      exact .drawn _ _ ks id ops (drawnB_ok h.1) (frees_ok h.2)
theorem chkFn_ok {af : AFn} {fn : Func} (h : chkFn M af fn = true) : FnP M af fn := by
  simp only [chkFn, Bool.and_eq_true, decide_eq_true_eq] at h
  obtain ⟨⟨h1, h2⟩, h3⟩ := h
  obtain ⟨h4, h5⟩ := all2_ok h3
  refine ⟨h1, ?_, by simpa using h4, fun i x y hx hy => ?_⟩
  · split at h2
    · rename_i c hc; exact ⟨c, hc, chkC_ok h2⟩
    · cases h2
  · have := h5 i x y hx (by simpa using hy)
    unfold resP at this
    split at this
    · simp only [beq_iff_eq] at this; subst this; exact .t _
    · simp only [Bool.and_eq_true, beq_iff_eq] at this; obtain ⟨rfl, h6⟩ := this; exact .c _ _ _ (ldT_ok h6)
    · cases this
end
end Go.Ai
