/- Functions, and the whole: what a run of the lowered program answers, the program answers. -/
import Derived.Test.YtffliemhdjcflaaAiS20
set_option linter.unusedVariables false
set_option linter.unusedSimpArgs false
namespace Go.Ai
variable {M : SM}

inductive ResP (M : SM) : ARes → ResultVar → Prop
  | t (n) : ResP M (.t n) (.tmp n)
  | c (d k t) (ht : LdT M.P k t) : ResP M (.c d k) (.cell d t)
structure FnP (M : SM) (af : AFn) (fn : Func) : Prop where
  np : af.np ≤ fn.ntmps
  body : ∃ c, fn.body = some c ∧ CodeP M af.bx fn.ntmps af.body c
  len : af.res.length = fn.results.size
  res : ∀ (i : Nat) x y, af.res[i]? = some x → fn.results[i]? = some y → ResP M x y
def ProgP (M : SM) (AP : Nat → Option AFn) : Prop := ∀ f k af, M.fm f = some k → AP f = some af → ∃ fn, M.P.funcs[k]? = some fn ∧ FnP M af fn

theorem argFr_at : ∀ (as : List AVal) (n t : Nat), argFr n as t = if n ≤ t then (as[t - n]?).getD .undef else .undef := by
  intro as
  induction as with
  | nil => intro n t; simp [argFr, fr0]
  | cons v vs ih =>
    intro n t
    simp only [argFr, upd]
    by_cases h : t = n
    · subst h; simp
    · rw [if_neg h, ih]
      by_cases h2 : n ≤ t
      · rw [if_pos (by omega), if_pos h2]
        obtain ⟨k, rfl⟩ : ∃ k, t = n + (k + 1) := ⟨t - n - 1, by omega⟩
        rw [show n + (k + 1) - (n + 1) = k by omega, show n + (k + 1) - n = k + 1 by omega]
        rfl
      · rw [if_neg (by omega), if_neg h2]
theorem slotR_of {C : Cx} {β : Nat → Nat} {t : Nat} {v : AVal} {V : Value} (h : VR M C v V) : SlotR M C β t v V := by
  cases h <;> first | exact .int .. | exact .bool .. | exact .str .. | exact .nilp | exact .ptr _ _ _ ‹_› | exact .nils _ | exact .nilf | exact .nili | skip
  · exact .slice _ _ _ _ _ ‹_› ‹_› ‹_›
  · exact .list _ _ _ _ _ _ ‹_› ‹_› ‹_› ‹_› ‹_› ‹_›
  · exact .iptr _ _ _ _ _ _ ‹_› ‹_› ‹_› ‹_›
  · exact .func _ _ _ _ ‹_› ‹_› ‹_›
  · exact .iface _ _ _ _ ‹_› ‹_›
  · exact .agg _ _ ‹_› ‹_› ‹_›
  · exact .tuple _ _ ‹_› ‹_›
theorem vr_not {C : Cx} {v : AVal} {V : Value} (h : VR M C v V) : (∀ cs, v ≠ .pbox cs) ∧ ∀ d c, v ≠ .pptr d c := by cases h <;> simp
section
variable {bx : List Nat} {N : Nat} {C0 : Cx} {w0 : World} {L : Nat → Prop} {C C' : Cx} {β : Nat → Nat} {fr fr' : Fr} {G G' : AG} {a : Act} {w w' : World}

/-- A function is entered. -/
theorem St.enter {as : List AVal} {args : Array Value} (hg : GR M C G w) (ha : VsR M C as args) (hN : as.length ≤ N) (bx : List Nat) :
    St M bx N C w (live C G) C (fun _ => 0) (argFr 0 as) G { tmps := args ++ Array.replicate (N - args.size) undef, defers := [] } w := by
  have hat : ∀ t, argFr 0 as t = (as[t]?).getD .undef := fun t => by rw [argFr_at]; simp
  have hno : ∀ t v, argFr 0 as t = v → v = .undef ∨ ∃ V, VR M C v V ∧ args[t]? = some V := by
    intro t v ht
    rw [hat] at ht
    rcases Nat.lt_or_ge t as.length with hl | hl
    · right
      have h1 : as[t]? = some as[t] := List.getElem?_eq_getElem hl
      have h2 : args[t]? = some (args[t]'(by rw [← ha.1]; exact hl)) := Array.getElem?_eq_getElem _
      rw [h1] at ht
      simp only [Option.getD_some] at ht
      exact ⟨_, by rw [← ht]; exact ha.2 t _ _ h1 h2, h2⟩
    · left
      rw [List.getElem?_eq_none hl] at ht
      exact ht.symm
  have hlen := ha.1
  refine ⟨Cx.le.refl C, Un.refl w _, hg, fun b hb => .inl hb, by simp; omega, rfl, fun t => ?_, fun t cs ht => ?_, fun t t' cs cs' ht _ => ?_, fun t d c ht => ?_, fun b arr hb => .inl hb⟩
  · generalize hv : argFr 0 as t = v
    rcases hno t v hv with rfl | ⟨V, h1, h2⟩
    · trivial
    · have h3 : t < args.size := (Array.getElem?_eq_some_iff.1 h2).1
      have h4 : (args ++ Array.replicate (N - args.size) undef).getD t undef = V := by
        rw [Array.getD_eq_getD_getElem?, Array.getElem?_append_left h3, h2]; rfl
      show SlotR M C _ t v ((args ++ Array.replicate (N - args.size) undef).getD t undef)
      rw [h4]
      exact slotR_of h1
  · rcases hno t _ ht with h | ⟨V, h1, _⟩
    · cases h
    · exact absurd rfl ((vr_not h1).1 cs)
  · rcases hno t _ ht with h | ⟨V, h1, _⟩
    · cases h
    · exact absurd rfl ((vr_not h1).1 cs)
  · rcases hno t _ ht with h | ⟨V, h1, _⟩
    · cases h
    · exact absurd rfl ((vr_not h1).2 d c)

/-- One result. -/
theorem res_one (h : St M bx N C0 w0 L C β fr G a w) {x : ARes} {y : ResultVar} (hr : ResP M x y) {v : AVal} (hv : resV fr x = some v) :
    ∃ V, ((match y with | .tmp t => pure (a.tmps.getD t undef) | .cell a' t => do loadVar t (← asAddr (a.tmps.getD a' undef))) : Sem Value).run M.P w = .ok V w ∧ VR M C v V := by
  cases hr with
  | t n =>
    simp only [resV] at hv
    refine ⟨_, rfl, ?_⟩
    have := h.gev (OpR.t (M := M) n) (v := v)
    have hs := h.slot n
    obtain ⟨h2, h3, h4, h5⟩ := gv_some hv
    rw [h2] at hs
    cases v <;> first | exact hs | exact absurd rfl h5 | exact absurd rfl (h3 _ _) | exact absurd rfl (h4 _)
  | c d k t ht =>
    simp only [resV] at hv
    split at hv
    · rename_i cs hcs
      obtain ⟨_, _, ⟨cur, ty, hb, _, hcr⟩, _⟩ := h.box d cs hcs
      have hs := h.slot d
      rw [hcs] at hs
      have hs' : a.tmps.getD d undef = .pointer (some ⟨β d, 0, none⟩) := hs
      obtain ⟨V, h1, h2⟩ := run_loadVar (P := M.P) ht (c := 0) hv hb hcr
      refine ⟨V, ?_, h2⟩
      simp only [hs', asAddr, Sem.run_bind, Sem.run_pure, Result.andThen_ok]
      simpa using h1
    · cases hv
theorem run_results (h : St M bx N C0 w0 L C β fr G a w) {res : List ARes} {fn : Func} (hl : res.length = fn.results.size) (hr : ∀ (i : Nat) x y, res[i]? = some x → fn.results[i]? = some y → ResP M x y) {v : AVal} (hv : resAll res fr = some v) :
    ∃ V, (results fn a.tmps).run M.P w = .ok V w ∧ VR M C v V := by
  have key : ∀ (res : List ARes) (l : List ResultVar), res.length = l.length → (∀ (i : Nat) x y, res[i]? = some x → l[i]? = some y → ResP M x y) → ∀ vs, resVs fr res = some vs →
      ∃ Vs : List Value, (l.mapM (fun | .tmp t => pure (a.tmps.getD t undef) | .cell a' t => do loadVar t (← asAddr (a.tmps.getD a' undef)) : ResultVar → Sem Value)).run M.P w = .ok Vs w ∧ vs.length = Vs.length ∧ ∀ (i : Nat) x y, vs[i]? = some x → Vs[i]? = some y → VR M C x y := by
    intro res
    induction res with
    | nil =>
      intro l hl _ vs hvs
      cases l with
      | nil => injection hvs with hvs; subst hvs; exact ⟨[], rfl, rfl, by simp⟩
      | cons _ _ => simp at hl
    | cons x xs ih =>
      intro l hl hr vs hvs
      cases l with
      | nil => simp at hl
      | cons y ys =>
        simp only [resVs, Option.bind_eq_some_iff] at hvs
        obtain ⟨v, hv, vs', hvs', e⟩ := hvs
        injection e with e
        subst e
        obtain ⟨V, h1, h2⟩ := res_one h (hr 0 x y rfl rfl) hv
        obtain ⟨Vs, h3, h4, h5⟩ := ih ys (by simpa using hl) (fun i x y hx hy => hr (i + 1) x y (by simpa using hx) (by simpa using hy)) vs' hvs'
        refine ⟨V :: Vs, ?_, by simp [h4], fun i p q hp hq => ?_⟩
        · rw [List.mapM_cons, Sem.run_bind, h1, Result.andThen_ok, Sem.run_bind, h3, Result.andThen_ok]; rfl
        · cases i with
          | zero => simp at hp hq; rw [← hp, ← hq]; exact h2
          | succ i => exact h5 i p q (by simpa using hp) (by simpa using hq)
  have hvs : ∃ vs, resVs fr res = some vs ∧ ((∃ x, vs = [x] ∧ v = x) ∨ (vs.length ≠ 1 ∧ v = .tuple vs)) := by
    unfold resAll at hv
    split at hv
    · rename_i x
      refine ⟨[v], ?_, .inl ⟨v, rfl, rfl⟩⟩
      simp only [resVs, hv, Option.bind_some]
    · rename_i xs hne
      simp only [Option.map_eq_some_iff] at hv
      obtain ⟨vs, h1, h2⟩ := hv
      refine ⟨vs, h1, .inr ⟨?_, h2.symm⟩⟩
      intro h3
      have hlen : ∀ (ys : List ARes) (us : List AVal), resVs fr ys = some us → us.length = ys.length := by
        intro ys
        induction ys with
        | nil => intro us h; injection h with h; subst h; rfl
        | cons y ys ih =>
          intro us h
          simp only [resVs, Option.bind_eq_some_iff] at h
          obtain ⟨_, _, us', hus, e⟩ := h
          injection e with e
          subst e
          simp [ih us' hus]
      have := hlen _ vs h1
      rw [h3] at this
      obtain ⟨x, hx⟩ := List.length_eq_one_iff.1 this.symm
      exact hne x hx
  obtain ⟨vs, h1, h2⟩ := hvs
  obtain ⟨Vs, h3, h4, h5⟩ := key res fn.results.toList (by simpa using hl) (fun i x y hx hy => hr i x y hx (by simpa using hy)) vs h1
  have hrun : (results fn a.tmps).run M.P w = .ok (if h : Vs.toArray.size = 1 then Vs.toArray[0] else .tuple Vs.toArray) w := by
    unfold results
    rw [Array.mapM_eq_mapM_toList]
    simp only [Sem.run_bind, Sem.run_map]
    erw [h3]
    rfl
  refine ⟨_, hrun, ?_⟩
  rcases h2 with ⟨x, rfl, rfl⟩ | ⟨hne, rfl⟩
  · have hl1 : Vs.length = 1 := by rw [← h4]; rfl
    obtain ⟨V, rfl⟩ := List.length_eq_one_iff.1 hl1
    exact h5 0 _ _ rfl rfl
  · have : ¬ Vs.toArray.size = 1 := by simp [← h4, hne]
    rw [dif_neg this]
    exact .tuple vs Vs.toArray (by simp [h4]) (fun i x y hx hy => h5 i x y hx (by simpa using hy))

theorem fn_ok {call : CallF} {mt : Nat → Nat → Option Nat} (hc : CallOK M call) (hf : FnsOk M) (hm : M.P.follows .mixedOrders = true) {fuel : Nat} {af : AFn} {fn : Func} {k : FuncId} (hk : M.P.funcs[k]? = some fn) (hp : FnP M af fn)
    {as : List AVal} {v : AVal} {args : Array Value} (hg : GR M C G w) (ha : VsR M C as args) (hlen : as.length = af.np) {r : St3} (he : evC call mt fuel af.body (argFr 0 as) G = some r) (hx : ∀ id, r.1 ≠ .exit id) (hv : resAll af.res r.2.1 = some v) :
    Does M C G w k args v r.2.2 := by
  obtain ⟨c, hb, hcp⟩ := hp.body
  refine calls_of_wp hk hb ?_
  refine code_ok hc hf hm fuel hcp _ _ G C (fun _ => 0) _ w r (St.enter hg ha (by rw [hlen]; exact hp.np) af.bx) he (fun C' β' a' w' hst => ?_)
  obtain ⟨V, h1, h2⟩ := run_results hst hp.len hp.res hv
  have hret : Ret M C C' G r.2.2 w w' := ⟨hst.le, hst.gr, hst.un, hst.mine, hst.ims⟩
  cases hr : r.1 with
  | normal => exact ⟨hst.defers, V, h1, C', hret, h2⟩
  | ret => exact ⟨hst.defers, V, h1, C', hret, h2⟩
  | exit id => exact absurd hr (hx id)
theorem sound {AP : Nat → Option AFn} {mt : Nat → Nat → Option Nat} (hf : FnsOk M) (hm : M.P.follows .mixedOrders = true) (hp : ProgP M AP) : ∀ n, CallOK M (runF AP mt n) := by
  intro n
  induction n with
  | zero => intro f k as G v G' _ h; cases h
  | succ n ih =>
    intro f k as G v G' hk h C w args hg ha
    simp only [runF, Option.bind_eq_some_iff] at h
    obtain ⟨af, haf, h⟩ := h
    split at h
    · rename_i hlen
      simp only [Option.bind_eq_some_iff] at h
      obtain ⟨r, he, h⟩ := h
      obtain ⟨fn, hfn, hfp⟩ := hp f k af hk haf
      have key : (∀ id, r.1 ≠ .exit id) → ((resAll af.res r.2.1).bind fun v => some (v, r.2.2)) = some (v, G') → Does M C G w k args v G' := by
        intro hx hv
        simp only [Option.bind_eq_some_iff] at hv
        obtain ⟨v1, hv1, e⟩ := hv
        injection e with e; injection e with e1 e2
        subst e1 e2
        exact fn_ok ih hf hm hfn hfp hg ha hlen he hx hv1
      cases hr : r.1 with
      | exit id => rw [hr] at h; cases h
      | normal => rw [hr] at h; exact key (by intro id e; rw [hr] at e; cases e) h
      | ret => rw [hr] at h; exact key (by intro id e; rw [hr] at e; cases e) h
    · cases h
theorem sound_run {AP : Nat → Option AFn} {mt : Nat → Nat → Option Nat} (hf : FnsOk M) (hm : M.P.follows .mixedOrders = true) (hp : ProgP M AP) : CallOK M (run AP mt) := by
  intro f k as G v G' hk h
  obtain ⟨n, hn⟩ := (run_some AP mt).1 h
  exact sound hf hm hp n f k as G v G' hk hn
end
end Go.Ai
