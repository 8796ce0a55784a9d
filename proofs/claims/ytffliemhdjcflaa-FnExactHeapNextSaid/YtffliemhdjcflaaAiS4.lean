/- Operations that answer a value and leave the world alone: each one's run. -/
import Derived.Test.YtffliemhdjcflaaAiS3
set_option linter.unusedVariables false
set_option linter.unusedSimpArgs false
namespace Go.Ai
variable {M : SM}

inductive PartM (M : SM) (fields : Array Field) : (Nat × Nat × Opd) → (Nat × Operand) → Prop
  | mk (o n x i X f) (hx : OpR M x X) (hf : fields[i]? = some f) (ho : f.offset = o) (hs : (M.P.info? f.type).map (·.size) = some n) : PartM M fields (o, n, x) (i, X)
/-- A struct of whole numbers (true) and truth values (false) alone, its fields one cell each. -/
def FlatF (P : Program) : List Field → Nat → List Bool → Prop
  | [], _, [] => True
  | f :: fs, o, b :: bs => f.name ≠ "_" ∧ f.offset = o ∧ (if b = true then ∃ k, P.underlying f.type = some (.int k) else P.underlying f.type = some .bool) ∧ FlatF P fs (o + 1) bs
  | _, _, _ => False
inductive EqM (P : Program) (t : TypeId) : EqK → Prop
  | b (h : P.underlying t = some .bool) : EqM P t .b
  | f (ps rs v) (h : P.underlying t = some (.func ps rs v)) : EqM P t .f
  | st (ks) (h : P.underlying t = some (.struct (P.fieldsOf t))) (h1 : P.stoodInHeld t = false) (h2 : P.eqGuardType P.depth t = false) (h3 : FlatF P (P.fieldsOf t).toList 0 ks) : EqM P t (.st ks)
def isLen (P : Program) (t : TypeId) : Prop := P.underlying t = some .string ∨ ∃ e, P.underlying t = some (.slice e)
inductive OptR (M : SM) : Option Opd → Option Operand → Prop
  | none : OptR M none none
  | some (x X) (h : OpR M x X) : OptR M (some x) (some X)

/-- An operation of the lowered program and one of the program. -/
inductive OpP (M : SM) : AOp → Op → Prop
  | mv (x X) (h : OpR M x X) : OpP M (.mv x) (.move X)
  | as (x X) (h : OpR M x X) : OpP M (.mv x) (.assign X)
  | pick (c a b C A B) (hc : OpR M c C) (ha : OpR M a A) (hb : OpR M b B) : OpP M (.pick c a b) (.pick C A B)
  | build (z ps t parts fields zv) (hz : (M.P.info? t).bind (·.zero) = some (.agg zv)) (hzr : ∀ C, ArR M C z zv) (ht : M.P.underlying t = some (.struct fields))
      (hi : ∀ f ∈ fields, ∃ n, (M.P.info? f.type).map (·.size) = some n) (hfit : ∀ p ∈ ps, p.1 + p.2.1 ≤ z.length) (hl : ps.length = parts.size) (hp : ∀ (k : Nat) p q, ps[k]? = some p → parts[k]? = some q → PartM M fields p q) : OpP M (.build z ps) (.build t parts)
  | load (k x t X) (h : OpR M x X) (ht : LdT M.P k t) : OpP M (.load k x) (.load t X)
  | nilck (x X) (h : OpR M x X) : OpP M (.nilck x) (.nilCheck X)
  | bin (op x y t X Y t') (hx : OpR M x X) (hy : OpR M y Y) : OpP M (.bin op x y) (.binOp op t X Y t')
  | eq (k x y t X Y t') (hx : OpR M x X) (hy : OpR M y Y) (ht : EqM M.P t k) : OpP M (.eqk k false x y) (.binOp .eql t X Y t')
  | ne (k x y t X Y t') (hx : OpR M x X) (hy : OpR M y Y) (ht : EqM M.P t k) : OpP M (.eqk k true x y) (.binOp .neq t X Y t')
  | nt (x t X) (h : OpR M x X) : OpP M (.nt x) (.unOp .not t X)
  | neg (x t X) (h : OpR M x X) : OpP M (.neg x) (.unOp .neg t X)
  | fld (off x s X i fields f) (h : OpR M x X) (hs : M.P.underlying s = some (.struct fields)) (hf : fields[i]? = some f) (ho : f.offset = off) (hn : ∃ n, (M.P.info? f.type).map (·.size) = some n ∧ n ≠ 0) : OpP M (.fld off x) (.fieldAddr s X i)
  | idx (z x i t X I e) (hx : OpR M x X) (hi : OpR M i I) (ht : M.P.underlying t = some (.slice e)) (hz : (M.P.info? e).map (·.size) = some z) : OpP M (.idx z x i) (.indexAddr t X I)
  | ext (x i X) (h : OpR M x X) : OpP M (.ext x i) (.extract X i)
  | fieldv (off k x s X i fields f) (h : OpR M x X) (hs : M.P.underlying s = some (.struct fields)) (hf : fields[i]? = some f) (ho : f.offset = off) (hl : LdT M.P k f.type) : OpP M (.fieldv off k x) (.field s X i)
  | len (x X t as) (h : OpR M x X) (ht : ∃ e, M.P.underlying t = some (.slice e)) (hc : as = { callee := .builtin .len, args := #[X], argTypes := #[t] }) : OpP M (.len x) (.call as)
  | mkf (f k caps Caps) (hf : M.fm f = some k) (hl : caps.length = Caps.size) (h : ∀ (i : Nat) x X, caps[i]? = some x → Caps[i]? = some X → OpR M x X) : OpP M (.mkf f caps) (.makeFunc (.func k) #[] Caps)
  | mki (tag t x X) (h : OpR M x X) (ht : M.tm tag = some t) (hc : M.P.concrete t = true) : OpP M (.mki tag x) (.makeInterface t X)
  | sl (z x lo hi t X Lo Hi e) (hx : OpR M x X) (hlo : OptR M lo Lo) (hhi : OptR M hi Hi) (ht : M.P.underlying t = some (.slice e)) (hz : (M.P.info? e).map (·.size) = some z) : OpP M (.sl z x lo hi) (.slice t X Lo Hi none)
  | conv (k x s d X) (h : OpR M x X) (hs : ∃ k', M.P.underlying s = some (.int k')) (hd : M.P.underlying d = some (.int k)) : OpP M (.conv k x) (.convert s d X)
  | mxn (x y X Y ts) (hx : OpR M x X) (hy : OpR M y Y) : OpP M (.mxn true [x, y]) (.call { callee := .builtin .max, args := #[X, Y], argTypes := ts })
  | mnn (x y X Y ts) (hx : OpR M x X) (hy : OpR M y Y) : OpP M (.mxn false [x, y]) (.call { callee := .builtin .min, args := #[X, Y], argTypes := ts })

section
variable {bx : List Nat} {N : Nat} {C0 : Cx} {w0 : World} {L : Nat → Prop} {C : Cx} {β : Nat → Nat} {fr : Fr} {G : AG} {a : Act} {w : World}

theorem gevs_get : ∀ (xs : List Opd) (vs : List AVal), gevs fr xs = some vs → vs.length = xs.length ∧ ∀ (i : Nat) x, xs[i]? = some x → ∃ v, vs[i]? = some v ∧ x.gev fr = some v := by
  intro xs
  induction xs with
  | nil => intro vs h; injection h with h; subst h; exact ⟨rfl, by simp⟩
  | cons x xs ih =>
    intro vs h
    simp only [gevs, Option.bind_eq_some_iff] at h
    obtain ⟨v, hv, vs', hvs, h⟩ := h
    injection h with h
    subst h
    obtain ⟨h1, h2⟩ := ih vs' hvs
    refine ⟨by simp [h1], fun i y hy => ?_⟩
    cases i with
    | zero => simp at hy; subst hy; exact ⟨v, rfl, hv⟩
    | succ i => exact h2 i y hy
theorem St.gevs (h : St M bx N C0 w0 L C β fr G a w) {xs : List Opd} {Xs : Array Operand} {vs : List AVal} (hv : gevs fr xs = some vs) (hl : xs.length = Xs.size) (hx : ∀ (i : Nat) x X, xs[i]? = some x → Xs[i]? = some X → OpR M x X) :
    vs.length = (Xs.map a.eval).size ∧ ∀ (i : Nat) v V, vs[i]? = some v → (Xs.map a.eval)[i]? = some V → VR M C v V := by
  obtain ⟨h1, h2⟩ := gevs_get xs vs hv
  refine ⟨by simp [h1, hl], fun i v V hi hI => ?_⟩
  have hlt : i < xs.length := by rw [← h1]; exact (List.getElem?_eq_some_iff.1 hi).1
  obtain ⟨v', h3, h4⟩ := h2 i _ (List.getElem?_eq_getElem hlt)
  rw [hi] at h3; injection h3 with h3; subst h3
  simp only [Array.getElem?_map, Option.map_eq_some_iff] at hI
  obtain ⟨X, hX, rfl⟩ := hI
  exact h.gev (hx i _ X (List.getElem?_eq_getElem hlt) hX) h4
theorem St.gcells (h : St M bx N C0 w0 L C β fr G a w) {x : Opd} {X : Operand} (hx : OpR M x X) {cs : List AVal} (hv : gcells fr x = some cs) : CsR M C cs (a.eval X).cells 0 ∧ cs.length = (a.eval X).cells.size := by
  simp only [Ai.gcells, Option.bind_eq_some_iff] at hv
  obtain ⟨v, hv, hc⟩ := hv
  exact cellsR (h.gev hx hv) hc

theorem flat_eq {P : Program} : ∀ (ks : List Bool) (fs : List Field) (o d : Nat) (xs ys : List AVal) (X Y : Array Value), FlatF P fs o ks → (∀ (i : Nat) x y, xs[i]? = some x → X[o + i]? = some y → VR M C x y) → (∀ (i : Nat) x y, ys[i]? = some x → Y[o + i]? = some y → VR M C x y) →
    o + xs.length = X.size → o + ys.length = Y.size → ∀ r, eqks ks xs ys = some r → ∀ w, (Op.eqFields (d + 1) X Y fs).run P w = .ok r w := by
  intro ks
  induction ks with
  | nil =>
    intro fs o d xs ys X Y hf h1 h2 hx hy r hr w
    cases fs with
    | nil =>
      cases xs <;> cases ys <;> simp only [eqks] at hr <;> first | (cases hr; done) | (injection hr with hr; subst hr; rfl)
    | cons f fs => exact hf.elim
  | cons b ks ih =>
    intro fs o d xs ys X Y hf h1 h2 hx hy r hr w
    cases fs with
    | nil => exact hf.elim
    | cons f fs =>
      obtain ⟨hn, ho, ht, hf⟩ := hf
      have key : ∀ (x y : AVal) (xs' ys' : List AVal) (r1 r2 : Bool) (U V : Value), xs = x :: xs' → ys = y :: ys' → X[o]? = some U → Y[o]? = some V → (∀ w : World, (Op.equalIn (d + 1) f.type U V).run P w = .ok r1 w) → aggD ((P.underlying f.type).getD .invalid) = false → (∃ d, P.underlying f.type = some d) →
          eqks ks xs' ys' = some r2 → r = (r1 && r2) → (Op.eqFields (d + 1) X Y (f :: fs)).run P w = .ok r w := by
        intro x y xs' ys' r1 r2 U V hxs hys hU hV he hg hu hr2 hrr
        obtain ⟨dd, hu⟩ := hu
        have hag : ∀ w, (isAgg f.type).run P w = .ok false w := fun w => by rw [run_isAgg hu]; rw [hu] at hg; simpa using hg
        have hp : ∀ (Z : Array Value) (U : Value) (w : World), Z[o]? = some U → (part f.type Z f.offset).run P w = .ok U w := fun Z U w hZ => by
          simp [part, hag, ho, hZ]
        have hrest := ih fs (o + 1) d xs' ys' X Y hf (fun i x y hx' hy' => h1 (i + 1) x y (by rw [hxs]; simpa using hx') (by rw [show o + (i + 1) = o + 1 + i by omega]; exact hy'))
          (fun i x y hx' hy' => h2 (i + 1) x y (by rw [hys]; simpa using hx') (by rw [show o + (i + 1) = o + 1 + i by omega]; exact hy')) (by rw [hxs] at hx; simp at hx; omega) (by rw [hys] at hy; simp at hy; omega) r2 hr2 w
        simp only [Op.eqFields]
        rw [if_pos hn]
        simp only [Sem.run_bind, hp X U w hU, hp Y V w hV, he, Result.andThen_ok, Sem.run_ite, Sem.run_pure]
        cases r1
        · simp [hrr]
        · simp [hrest, hrr]
      cases b with
      | true =>
        cases xs with
        | nil => simp [eqks] at hr
        | cons x xs =>
          cases ys with
          | nil => cases x <;> simp [eqks] at hr
          | cons y ys =>
            cases x <;> cases y <;> simp only [eqks] at hr <;> try (cases hr; done)
            rename_i k m k' m'
            split at hr
            · rename_i hk
              subst hk
              obtain ⟨r2, hr2, rfl⟩ := Option.map_eq_some_iff.1 hr
              obtain ⟨kk, hu⟩ := (by simpa using ht : ∃ k, P.underlying f.type = some (.int k))
              have hX : o < X.size := by simp at hx; omega
              have hY : o < Y.size := by simp at hy; omega
              have hU := h1 0 (.int k m) X[o] rfl (by simp [Array.getElem?_eq_getElem hX])
              have hV := h2 0 (.int k m') Y[o] rfl (by simp [Array.getElem?_eq_getElem hY])
              refine key (.int k m) (.int k m') xs ys (decide (m = m')) r2 (.int k m) (.int k m') rfl rfl ?_ ?_ ?_ (by rw [hu]; rfl) ⟨_, hu⟩ hr2 rfl
              · rw [Array.getElem?_eq_getElem hX]; cases hUU : X[o] <;> rw [hUU] at hU <;> cases hU; rfl
              · rw [Array.getElem?_eq_getElem hY]; cases hVV : Y[o] <;> rw [hVV] at hV <;> cases hV; rfl
              · intro w; rw [run_equalIn_int w d f.type k kk m m' hu]; rfl
            · cases hr
      | false =>
        cases xs with
        | nil => simp [eqks] at hr
        | cons x xs =>
          cases ys with
          | nil => cases x <;> simp [eqks] at hr
          | cons y ys =>
            cases x <;> cases y <;> simp only [eqks] at hr <;> try (cases hr; done)
            rename_i m m'
            obtain ⟨r2, hr2, rfl⟩ := Option.map_eq_some_iff.1 hr
            have hu : P.underlying f.type = some .bool := by simpa using ht
            have hX : o < X.size := by simp at hx; omega
            have hY : o < Y.size := by simp at hy; omega
            have hU := h1 0 (.bool m) X[o] rfl (by simp [Array.getElem?_eq_getElem hX])
            have hV := h2 0 (.bool m') Y[o] rfl (by simp [Array.getElem?_eq_getElem hY])
            refine key (.bool m) (.bool m') xs ys (m == m') r2 (.bool m) (.bool m') rfl rfl ?_ ?_ ?_ (by rw [hu]; rfl) ⟨_, hu⟩ hr2 rfl
            · rw [Array.getElem?_eq_getElem hX]; cases hUU : X[o] <;> rw [hUU] at hU <;> cases hU; rfl
            · rw [Array.getElem?_eq_getElem hY]; cases hVV : Y[o] <;> rw [hVV] at hV <;> cases hV; rfl
            · intro w; exact run_equalIn_bool' w d f.type m m' hu
end
end Go.Ai
