/- Operations that answer a value and leave the world alone: the theorem. Worlds that change: a step of the heap, a struct variable of the frame. append, copy, literals, stores: what they do to the world. -/
import Derived.Test.YtffliemhdjcflaaC1
import Derived.Lib.SliceRun
set_option linter.unusedVariables false
set_option linter.unusedSimpArgs false
namespace Go.Ai
variable {M : SM}
section
variable {bx : List Nat} {N : Nat} {C0 : Cx} {w0 : World} {L : Nat → Prop} {C : Cx} {β : Nat → Nat} {fr : Fr} {G G' : AG} {a : Act} {w : World}
variable {call : CallF} {mt : Nat → Nat → Option Nat} {v : AVal}

theorem vr_int {C : Cx} {k : IntKind} {n : Int} {V : Value} (h : VR M C (.int k n) V) : V = .int k n := by cases h; rfl
theorem vr_bool {C : Cx} {b : Bool} {V : Value} (h : VR M C (.bool b) V) : V = .bool b := by cases h; rfl
theorem run_binOp_int (P : Program) (w : World) (op : BinOp) (t : TypeId) (k : IntKind) (m n : Int) (v : AVal) (h : intBin op k m n = some v) : ∃ V, (binOp op t (.int k m) (.int k n)).run P w = .ok V w ∧ ∀ C, VR M C v V := by
  cases op <;> simp only [intBin] at h <;> try (cases h; done)
  case quo => split at h <;> first | (cases h; done) | (rename_i h0; injection h with h; subst h; exact ⟨_, by simp [binOp, Op.intDiv, h0], fun _ => .int ..⟩)
  case rem => split at h <;> first | (cases h; done) | (rename_i h0; injection h with h; subst h; exact ⟨_, by simp [binOp, Op.intDiv, h0], fun _ => .int ..⟩)
  case xor => injection h with h; subst h; exact ⟨_, by simp [binOp, Op.intBits], fun _ => .int ..⟩
  case eql => injection h with h; subst h; exact ⟨.bool (decide (m = n)), by simp [binOp, Op.intCmp]; rfl, fun _ => .bool ..⟩
  case neq => injection h with h; subst h; exact ⟨.bool (!decide (m = n)), by simp [binOp, Op.intCmp, bne]; rfl, fun _ => .bool ..⟩
  case lss => injection h with h; subst h; exact ⟨_, by simp [binOp, Op.intCmp], fun _ => .bool ..⟩
  case leq => injection h with h; subst h; exact ⟨_, by simp [binOp, Op.intCmp], fun _ => .bool ..⟩
  case gtr => injection h with h; subst h; exact ⟨_, by simp [binOp, Op.intCmp], fun _ => .bool ..⟩
  case geq => injection h with h; subst h; exact ⟨_, by simp [binOp, Op.intCmp], fun _ => .bool ..⟩
  all_goals injection h with h; subst h; exact ⟨_, by simp [binOp, Op.intArith], fun _ => .int ..⟩

theorem partsOf_get : ∀ (ps : List (Nat × Nat × Opd)) (vs : List (Nat × List AVal)), partsOf fr ps = some vs → vs.length = ps.length ∧ ∀ (i : Nat) o n x, ps[i]? = some (o, n, x) → ∃ cs, vs[i]? = some (o, cs) ∧ gcells fr x = some cs ∧ cs.length = n := by
  intro ps
  induction ps with
  | nil => intro vs h; injection h with h; subst h; exact ⟨rfl, by simp⟩
  | cons p ps ih =>
    obtain ⟨o, n, x⟩ := p
    intro vs h
    simp only [partsOf, Option.bind_eq_some_iff] at h
    obtain ⟨cs, hcs, h⟩ := h
    split at h
    · rename_i hn
      simp only [Option.bind_eq_some_iff] at h
      obtain ⟨t, ht, h⟩ := h
      injection h with h
      subst h
      obtain ⟨h1, h2⟩ := ih t ht
      refine ⟨by simp [h1], fun i o' n' x' hi => ?_⟩
      cases i with
      | zero => simp at hi; obtain ⟨rfl, rfl, rfl⟩ := hi; exact ⟨cs, rfl, hcs, hn⟩
      | succ i => exact h2 i o' n' x' hi
    · cases h
theorem run_fill (h : St M bx N C0 w0 L C β fr G a w) {fields : Array Field} {place : Nat → Option (Nat × Nat)} (hpl : ∀ i f n, fields[i]? = some f → (M.P.info? f.type).map (·.size) = some n → place i = some (f.offset, n)) :
    ∀ (ps : List (Nat × Nat × Opd)) (qs : List (Nat × Operand)) (vs : List (Nat × List AVal)) (z : List AVal) (zv : Array Value), partsOf fr ps = some vs → ps.length = qs.length → (∀ (k : Nat) p q, ps[k]? = some p → qs[k]? = some q → PartM M fields p q) → ArR M C z zv →
      (∀ (p : Nat × List AVal), p ∈ vs → p.1 + p.2.length ≤ z.length) → ∃ arr, Instr.fill place zv (qs.map fun (i, x) => (i, a.eval x)) = some arr ∧ ArR M C (fillB z vs) arr := by
  intro ps
  induction ps with
  | nil =>
    intro qs vs z zv hp hl _ hz _
    injection hp with hp
    subst hp
    cases qs with
    | nil => exact ⟨zv, rfl, hz⟩
    | cons q qs => simp at hl
  | cons p ps ih =>
    intro qs vs z zv hp hl hm hz hf
    cases qs with
    | nil => simp at hl
    | cons q qs =>
      obtain ⟨o, n, x⟩ := p
      obtain ⟨i, X⟩ := q
      simp only [partsOf, Option.bind_eq_some_iff] at hp
      obtain ⟨cs, hcs, hp⟩ := hp
      split at hp
      · rename_i hn
        simp only [Option.bind_eq_some_iff] at hp
        obtain ⟨t, ht, hp⟩ := hp
        injection hp with hp
        subst hp
        have h0 := hm 0 (o, n, x) (i, X) rfl rfl
        cases h0 with
        | mk _ _ _ _ _ f hx hfi ho hs =>
          obtain ⟨hc1, hc2⟩ := h.gcells hx hcs
          have hfit := hf (o, cs) (by simp)
          have hsp := hz.splice (off := o) hc1 hc2 hfit
          obtain ⟨arr, ha1, ha2⟩ := ih qs t (splice z o cs) _ ht (by simpa using hl) (fun k p q hp hq => hm (k + 1) p q (by simpa using hp) (by simpa using hq)) hsp (fun p hp => by rw [splice_length]; exact hf p (by simp [hp]))
          refine ⟨arr, ?_, ha2⟩
          simp only [List.map_cons, Instr.fill, hpl i f n hfi hs, ho]
          rw [if_neg]
          · exact ha1
          · simp only [ne_eq, Bool.or_eq_true, decide_eq_true_eq, not_or, Decidable.not_not]
            have := hz.len
            constructor
            · rw [← hc2]; exact hn
            · simp at hfit; omega
      · cases hp
theorem run_places {P : Program} (w : World) (fields : Array Field) (hi : ∀ f ∈ fields, ∃ n, (P.info? f.type).map (·.size) = some n) :
    ∃ places : Array (Nat × Nat), (fields.mapM fun (f : Field) => (do pure (f.offset, ← sizeOf f.type) : Sem (Nat × Nat))).run P w = .ok places w ∧ ∀ (i : Nat) f n, fields[i]? = some f → (P.info? f.type).map (·.size) = some n → places[i]? = some (f.offset, n) := by
  have key : ∀ (l : List Field), (∀ f ∈ l, ∃ n, (P.info? f.type).map (·.size) = some n) → ∃ ps : List (Nat × Nat), (l.mapM fun (f : Field) => (do pure (f.offset, ← sizeOf f.type) : Sem (Nat × Nat))).run P w = .ok ps w ∧ ∀ (i : Nat) f n, l[i]? = some f → (P.info? f.type).map (·.size) = some n → ps[i]? = some (f.offset, n) := by
    intro l
    induction l with
    | nil => intro _; exact ⟨[], rfl, by simp⟩
    | cons f l ih =>
      intro hl
      obtain ⟨n, hn⟩ := hl f (by simp)
      obtain ⟨ps, h1, h2⟩ := ih (fun g hg => hl g (by simp [hg]))
      refine ⟨(f.offset, n) :: ps, ?_, fun i g m hg hm => ?_⟩
      · simp only [List.mapM_cons, Sem.run_bind, run_sizeOf hn, Result.andThen_ok, Sem.run_pure, h1]
      · cases i with
        | zero => simp at hg; subst hg; rw [hn] at hm; injection hm with hm; subst hm; rfl
        | succ i => exact h2 i g m (by simpa using hg) hm
  obtain ⟨ps, h1, h2⟩ := key fields.toList (fun f hf => hi f (by simpa using hf))
  refine ⟨ps.toArray, ?_, fun i f n hf hn => by simpa using h2 i f n (by simpa using hf) hn⟩
  have : (fields.mapM fun (f : Field) => (do pure (f.offset, ← sizeOf f.type) : Sem (Nat × Nat))) = List.toArray <$> fields.toList.mapM fun (f : Field) => (do pure (f.offset, ← sizeOf f.type) : Sem (Nat × Nat)) := by
    rw [← Array.mapM_eq_mapM_toList]
  rw [this]
  simp only [Sem.run_map, h1, Result.andThen_ok]

theorem bound_ok {X : Value} {v : AVal} {l d : Nat} (hx : VR M C v X) (hb : boundOf (some v) d = some l) {y : Nat} {code : BoundsCode} {P : Program} (hl : l ≤ y) : (Instr.sliceBound X y code).run P w = .ok l w := by
  cases v <;> simp only [boundOf] at hb <;> try (cases hb; done)
  rename_i kk n
  split at hb
  · injection hb with hb
    cases hx
    have h1 : 0 ≤ n ∧ n ≤ (y : Int) := by omega
    simp [Instr.sliceBound, asIntOf, h1, hb]
  · cases hb

theorem run_fnil {P : Program} {t : TypeId} {ps rs : Array TypeId} {vv : Bool} (hu : P.underlying t = some (.func ps rs vv)) (d : Nat) (fn : Fn) (x y : Array Value) (w : World) : (Op.equalIn (d + 1) t (.func fn x y) .nilFunc).run P w = .ok false w := by
  simp [Op.equalIn, run_underlying hu]
theorem run_nilf {P : Program} {t : TypeId} {ps rs : Array TypeId} {vv : Bool} (hu : P.underlying t = some (.func ps rs vv)) (d : Nat) (fn : Fn) (x y : Array Value) (w : World) : (Op.equalIn (d + 1) t .nilFunc (.func fn x y)).run P w = .ok false w := by
  simp [Op.equalIn, run_underlying hu]
theorem run_nilnil {P : Program} {t : TypeId} {ps rs : Array TypeId} {vv : Bool} (hu : P.underlying t = some (.func ps rs vv)) (d : Nat) (w : World) : (Op.equalIn (d + 1) t .nilFunc .nilFunc).run P w = .ok true w := by
  simp [Op.equalIn, run_underlying hu]
theorem eqGuard_ff (op : BinOp) (t : TypeId) (x y : Operand) (u v : Value) (w : World) (P : Program) (hu : (∃ f a b, u = .func f a b) ∨ u = .nilFunc) : (eqGuard op t x y u v).run P w = .ok () w := by
  rcases hu with ⟨f, a, b, rfl⟩ | rfl <;> cases op <;> rfl
variable {dst : Option Tmp} {ty : TypeId} {pos : String} {after : Array Edge} {guard : Option (Nat × Bool)}
theorem p_mv (h : St M bx N C0 w0 L C β fr G a w) {x : Opd} {X : Operand} (hx : OpR M x X) (he : evOp call mt fr G (.mv x) = some (v, G')) :
    ∃ V, (execOp a.eval ⟨dst, .move X, ty, pos, after, guard⟩).run M.P w = .ok (.value V) w ∧ EvR M bx C β fr v V ∧ G' = G := by
    simp only [evOp] at he
    injection he with he; injection he with h1 h2
    subst h1
    exact ⟨_, by simp [execOp], h.ev hx, h2.symm⟩
theorem p_as (h : St M bx N C0 w0 L C β fr G a w) {x : Opd} {X : Operand} (hx : OpR M x X) (he : evOp call mt fr G (.mv x) = some (v, G')) :
    ∃ V, (execOp a.eval ⟨dst, .assign X, ty, pos, after, guard⟩).run M.P w = .ok (.value V) w ∧ EvR M bx C β fr v V ∧ G' = G := by
    simp only [evOp] at he
    injection he with he; injection he with h1 h2
    subst h1
    exact ⟨_, by simp [execOp], h.ev hx, h2.symm⟩
theorem p_pick (h : St M bx N C0 w0 L C β fr G a w) {c x y : Opd} {C' X Y : Operand} (hc : OpR M c C') (hx : OpR M x X) (hy : OpR M y Y) (he : evOp call mt fr G (.pick c x y) = some (v, G')) :
    ∃ V, (execOp a.eval ⟨dst, .pick C' X Y, ty, pos, after, guard⟩).run M.P w = .ok (.value V) w ∧ EvR M bx C β fr v V ∧ G' = G := by
    have h1 := h.ev hc; have h2 := h.ev hx; have h3 := h.ev hy
    simp only [evOp] at he
    generalize c.ev fr = cv at h1 he
    generalize hxv : x.ev fr = xv at h2 he
    generalize hyv : y.ev fr = yv at h3 he
    cases cv with
    | bool t =>
      have ht := vr_bool (VR_of_EvR h1 (by simp) (by simp) (by simp))
      have key : some (if t then xv else yv, G) = some (v, G') → ∃ V, (execOp a.eval ⟨dst, .pick C' X Y, ty, pos, after, guard⟩).run M.P w = .ok (.value V) w ∧ EvR M bx C β fr v V ∧ G' = G := by
        intro he
        injection he with he; injection he with h4 h5
        subst h4
        refine ⟨if t then a.eval X else a.eval Y, by cases t <;> simp [execOp, ht, asBool], ?_, h5.symm⟩
        cases t <;> simpa
      cases xv <;> cases yv <;> try exact key he
      rename_i b1 b2
      exact key (by rw [← he]; cases t <;> rfl)
    | _ => cases xv <;> cases yv <;> cases he
theorem p_build (h : St M bx N C0 w0 L C β fr G a w) {z : List AVal} {ps : List (Nat × Nat × Opd)} {t : TypeId} {parts : Array (Nat × Operand)} {fields : Array Field} {zv : Array Value} (hz : (M.P.info? t).bind (·.zero) = some (.agg zv)) (hzr : ∀ C, ArR M C z zv) (ht : M.P.underlying t = some (.struct fields)) (hi : ∀ f ∈ fields, ∃ n, (M.P.info? f.type).map (·.size) = some n) (hfit : ∀ p ∈ ps, p.1 + p.2.1 ≤ z.length) (hl : ps.length = parts.size) (hp : ∀ (k : Nat) p q, ps[k]? = some p → parts[k]? = some q → PartM M fields p q) (he : evOp call mt fr G (.build z ps) = some (v, G')) :
    ∃ V, (execOp a.eval ⟨dst, .build t parts, ty, pos, after, guard⟩).run M.P w = .ok (.value V) w ∧ EvR M bx C β fr v V ∧ G' = G := by
    simp only [evOp, Option.bind_eq_some_iff] at he
    obtain ⟨vs, hvs, he⟩ := he
    injection he with he; injection he with h1 h2
    subst h1
    obtain ⟨places, hpl1, hpl2⟩ := run_places w fields hi
    obtain ⟨hv1, hv2⟩ := partsOf_get ps vs hvs
    obtain ⟨arr, ha1, ha2⟩ := run_fill h (place := (places[·]?)) (fun i f n hf hn => hpl2 i f n hf hn) ps parts.toList vs z zv hvs (by simpa using hl) (fun k p q hp' hq => hp k p q hp' (by simpa using hq)) (hzr C) (by
      intro p hpm
      obtain ⟨i, hi1, rfl⟩ := List.getElem_of_mem hpm
      have hi2 : i < ps.length := by rw [← hv1]; exact hi1
      obtain ⟨cs, h3, _, h5⟩ := hv2 i _ _ _ (List.getElem?_eq_getElem hi2)
      rw [List.getElem?_eq_getElem hi1] at h3
      injection h3 with h3
      rw [h3]
      have := hfit ps[i] (List.getElem_mem hi2)
      show ps[i].1 + cs.length ≤ z.length
      have h6 : cs.length = ps[i].2.1 := h5
      omega)
    refine ⟨.agg arr, ?_, ArR.vr ha2, h2.symm⟩
    obtain ⟨i0, hi0, hz0⟩ := Option.bind_eq_some_iff.1 hz
    simp only [execOp, Instr.build, Sem.run_bind, zeroValue, typeInfo, run_program, hi0, hz0, Result.andThen_ok, Sem.run_pure, run_underlying ht, hpl1, Array.toList_map, Value.cells]
    rw [ha1]
    simp
theorem p_load (h : St M bx N C0 w0 L C β fr G a w) {k : Option Nat} {x : Opd} {t : TypeId} {X : Operand} (hx : OpR M x X) (ht : LdT M.P k t) (he : evOp call mt fr G (.load k x) = some (v, G')) :
    ∃ V, (execOp a.eval ⟨dst, .load t X, ty, pos, after, guard⟩).run M.P w = .ok (.value V) w ∧ EvR M bx C β fr v V ∧ G' = G := by
    obtain ⟨V, h1, h2, h3⟩ := run_load_any h ht hx he
    exact ⟨V, by simp [execOp, h1], evR_of_VR h2, h3⟩
theorem p_nilck (h : St M bx N C0 w0 L C β fr G a w) {x : Opd} {X : Operand} (hx : OpR M x X) (he : evOp call mt fr G (.nilck x) = some (v, G')) :
    ∃ V, (execOp a.eval ⟨dst, .nilCheck X, ty, pos, after, guard⟩).run M.P w = .ok (.value V) w ∧ EvR M bx C β fr v V ∧ G' = G := by
    have h1 := h.ev hx
    simp only [evOp] at he
    generalize x.ev fr = xv at h1 he
    cases xv <;> simp only at he <;> try (cases he; done)
    all_goals
      injection he with he; injection he with h4 h5
      subst h4
      refine ⟨a.eval X, ?_, h1, h5.symm⟩
    · have hv : VR M C (.ptr _ _ _) (a.eval X) := h1
      cases hA : a.eval X <;> rw [hA] at hv <;> cases hv
      simp [execOp, hA]
    · simp [execOp, h1.1]
    · have hv : VR M C (.iptr _ _ _) (a.eval X) := h1
      cases hA : a.eval X <;> rw [hA] at hv <;> cases hv
      simp [execOp, hA]
    · have hv : VR M C (.func _ _) (a.eval X) := h1
      cases hA : a.eval X <;> rw [hA] at hv <;> cases hv
      simp [execOp, hA]
    · have hv : VR M C (.iface _ _) (a.eval X) := h1
      cases hA : a.eval X <;> rw [hA] at hv <;> cases hv
      simp [execOp, hA]
    · have hv : VR M C .meth (a.eval X) := h1
      obtain ⟨nm, t, V, k, hA, i, m, e, m1, m2, m3, m4, m5⟩ : ∃ nm t V k, a.eval X = .func (.method nm) #[.iface t V] #[] ∧ PtrMeth M.P t nm k := by
        cases hA : a.eval X <;> rw [hA] at hv <;> cases hv
        exact ⟨_, _, _, _, rfl, ‹_›⟩
      have hn : ∀ fuel, (nilAhead (fuel + 1) t V nm).run M.P w = .ok (some false) w := by
        intro fuel
        simp [nilAhead, typeInfo, m1, m2, m3, m4, followBlind]
      simp [execOp, hA, run_program, show M.P.types.size + Made.depth = (M.P.types.size + 99) + 1 from rfl, hn]
theorem p_bin (h : St M bx N C0 w0 L C β fr G a w) {op : BinOp} {x y : Opd} {t t' : TypeId} {X Y : Operand} (hx : OpR M x X) (hy : OpR M y Y) (he : evOp call mt fr G (.bin op x y) = some (v, G')) :
    ∃ V, (execOp a.eval ⟨dst, .binOp op t X Y t', ty, pos, after, guard⟩).run M.P w = .ok (.value V) w ∧ EvR M bx C β fr v V ∧ G' = G := by
    simp only [evOp, Option.bind_eq_some_iff] at he
    obtain ⟨xv, hxv, yv, hyv, v', hv', he⟩ := he
    injection he with he; injection he with h4 h5
    subst h4
    have h1 := h.gev hx hxv; have h2 := h.gev hy hyv
    cases xv <;> cases yv <;> simp only [binv] at hv' <;> try (cases hv'; done)
    rename_i k m k' n
    split at hv'
    · rename_i hk
      subst hk
      have e1 := vr_int h1
      have e2 := vr_int h2
      obtain ⟨V, h6, h7⟩ := run_binOp_int M.P w op t k m n v' hv'
      exact ⟨V, by simp [execOp, e1, e2, eqGuard_at_int, h6], evR_of_VR (h7 C), h5.symm⟩
    · cases hv'
theorem p_eq (h : St M bx N C0 w0 L C β fr G a w) {k : EqK} {x y : Opd} {t t' : TypeId} {X Y : Operand} (hx : OpR M x X) (hy : OpR M y Y) (ht : EqM M.P t k) (he : evOp call mt fr G (.eqk k false x y) = some (v, G')) :
    ∃ V, (execOp a.eval ⟨dst, .binOp .eql t X Y t', ty, pos, after, guard⟩).run M.P w = .ok (.value V) w ∧ EvR M bx C β fr v V ∧ G' = G := by
    simp only [evOp, Option.bind_eq_some_iff] at he
    obtain ⟨xv, hxv, yv, hyv, v', hv', he⟩ := he
    injection he with he; injection he with h4 h5
    subst h4
    have h1 := h.gev hx hxv; have h2 := h.gev hy hyv
    obtain ⟨r, hr, rfl⟩ := Option.map_eq_some_iff.1 hv'
    refine ⟨.bool (r), ?_, VR.bool _, h5.symm⟩
    cases ht with
    | b hu =>
      cases xv <;> cases yv <;> simp only [eqv] at hr <;> try (cases hr; done)
      injection hr with hr
      have e1 := vr_bool h1; have e2 := vr_bool h2
      simp [execOp, e1, e2, eqGuard_at_bool, binOp, Op.equal, Op.maxDepth, run_equalIn_bool' w _ t _ _ hu, hr]
    | f ps rs vv hu =>
      have key : ∀ (U W : Value), a.eval X = U → a.eval Y = W → ((∃ f a b, U = .func f a b) ∨ U = .nilFunc) → (Op.equalIn 10000 t U W).run M.P w = .ok r w → (binOp .eql t U W = do pure (.bool (← Op.equal t U W))) → (execOp a.eval ⟨dst, .binOp .eql t X Y t', ty, pos, after, guard⟩).run M.P w = .ok (.value (.bool (r))) w := by
        intro U W hU hW hg he hb
        simp only [execOp, hU, hW, Sem.run_bind, eqGuard_ff .eql t X Y U W w M.P hg, Result.andThen_ok, hb, Op.equal, Op.maxDepth, he, Sem.run_pure]
      cases xv <;> cases yv <;> simp only [eqv] at hr <;> try (cases hr; done)
      · injection hr with hr
        subst hr
        obtain ⟨k1, args, hA, _⟩ := vr_func h1
        exact key _ _ hA (vr_nilf h2) (.inl ⟨_, _, _, rfl⟩) (run_fnil hu _ _ _ _ _) rfl
      · injection hr with hr
        subst hr
        obtain ⟨k1, args, hA, _⟩ := vr_func h2
        exact key _ _ (vr_nilf h1) hA (.inr rfl) (run_nilf hu _ _ _ _ _) rfl
      · injection hr with hr
        subst hr
        exact key _ _ (vr_nilf h1) (vr_nilf h2) (.inr rfl) (run_nilnil hu _ _) rfl
    | st ks hu hst hg hfl =>
      cases xv <;> cases yv <;> simp only [eqv] at hr <;> try (cases hr; done)
      obtain ⟨A1, hA, hA2⟩ := ArR.of_vr h1
      obtain ⟨B1, hB, hB2⟩ := ArR.of_vr h2
      have hq := flat_eq (P := M.P) ks (M.P.fieldsOf t).toList 0 9998 _ _ A1 B1 hfl (fun i x y hx hy => (hA2.at_ i x y hx (by simpa using hy)).v) (fun i x y hx hy => (hB2.at_ i x y hx (by simpa using hy)).v)
        (by rw [Nat.zero_add]; exact hA2.len) (by rw [Nat.zero_add]; exact hB2.len) r hr w
      simp only [execOp, hA, hB, Sem.run_bind, run_eqGuard_agg w _ t X Y _ _ hg, Result.andThen_ok, run_eql_struct, run_equalIn_struct w _ t _ _ hu hst, hq, Sem.run_pure]
theorem p_ne (h : St M bx N C0 w0 L C β fr G a w) {k : EqK} {x y : Opd} {t t' : TypeId} {X Y : Operand} (hx : OpR M x X) (hy : OpR M y Y) (ht : EqM M.P t k) (he : evOp call mt fr G (.eqk k true x y) = some (v, G')) :
    ∃ V, (execOp a.eval ⟨dst, .binOp .neq t X Y t', ty, pos, after, guard⟩).run M.P w = .ok (.value V) w ∧ EvR M bx C β fr v V ∧ G' = G := by
    simp only [evOp, Option.bind_eq_some_iff] at he
    obtain ⟨xv, hxv, yv, hyv, v', hv', he⟩ := he
    injection he with he; injection he with h4 h5
    subst h4
    have h1 := h.gev hx hxv; have h2 := h.gev hy hyv
    obtain ⟨r, hr, rfl⟩ := Option.map_eq_some_iff.1 hv'
    refine ⟨.bool (!r), ?_, VR.bool _, h5.symm⟩
    cases ht with
    | b hu =>
      cases xv <;> cases yv <;> simp only [eqv] at hr <;> try (cases hr; done)
      injection hr with hr
      have e1 := vr_bool h1; have e2 := vr_bool h2
      simp [execOp, e1, e2, eqGuard_at_bool, binOp, Op.equal, Op.maxDepth, run_equalIn_bool' w _ t _ _ hu, hr]
    | f ps rs vv hu =>
      have key : ∀ (U W : Value), a.eval X = U → a.eval Y = W → ((∃ f a b, U = .func f a b) ∨ U = .nilFunc) → (Op.equalIn 10000 t U W).run M.P w = .ok r w → (binOp .neq t U W = do pure (.bool (!(← Op.equal t U W)))) → (execOp a.eval ⟨dst, .binOp .neq t X Y t', ty, pos, after, guard⟩).run M.P w = .ok (.value (.bool (!r))) w := by
        intro U W hU hW hg he hb
        simp only [execOp, hU, hW, Sem.run_bind, eqGuard_ff .neq t X Y U W w M.P hg, Result.andThen_ok, hb, Op.equal, Op.maxDepth, he, Sem.run_pure]
      cases xv <;> cases yv <;> simp only [eqv] at hr <;> try (cases hr; done)
      · injection hr with hr
        subst hr
        obtain ⟨k1, args, hA, _⟩ := vr_func h1
        exact key _ _ hA (vr_nilf h2) (.inl ⟨_, _, _, rfl⟩) (run_fnil hu _ _ _ _ _) rfl
      · injection hr with hr
        subst hr
        obtain ⟨k1, args, hA, _⟩ := vr_func h2
        exact key _ _ (vr_nilf h1) hA (.inr rfl) (run_nilf hu _ _ _ _ _) rfl
      · injection hr with hr
        subst hr
        exact key _ _ (vr_nilf h1) (vr_nilf h2) (.inr rfl) (run_nilnil hu _ _) rfl
    | st ks hu hst hg hfl =>
      cases xv <;> cases yv <;> simp only [eqv] at hr <;> try (cases hr; done)
      obtain ⟨A1, hA, hA2⟩ := ArR.of_vr h1
      obtain ⟨B1, hB, hB2⟩ := ArR.of_vr h2
      have hq := flat_eq (P := M.P) ks (M.P.fieldsOf t).toList 0 9998 _ _ A1 B1 hfl (fun i x y hx hy => (hA2.at_ i x y hx (by simpa using hy)).v) (fun i x y hx hy => (hB2.at_ i x y hx (by simpa using hy)).v)
        (by rw [Nat.zero_add]; exact hA2.len) (by rw [Nat.zero_add]; exact hB2.len) r hr w
      simp only [execOp, hA, hB, Sem.run_bind, run_eqGuard_agg w _ t X Y _ _ hg, Result.andThen_ok, run_neq_struct, run_equalIn_struct w _ t _ _ hu hst, hq, Sem.run_pure]
theorem p_nt (h : St M bx N C0 w0 L C β fr G a w) {x : Opd} {t : TypeId} {X : Operand} (hx : OpR M x X) (he : evOp call mt fr G (.nt x) = some (v, G')) :
    ∃ V, (execOp a.eval ⟨dst, .unOp .not t X, ty, pos, after, guard⟩).run M.P w = .ok (.value V) w ∧ EvR M bx C β fr v V ∧ G' = G := by
    have h1 := h.ev hx
    simp only [evOp] at he
    generalize x.ev fr = xv at h1 he
    cases xv <;> simp only at he <;> try (cases he; done)
    injection he with he; injection he with h4 h5
    subst h4
    exact ⟨_, by simp [execOp, vr_bool h1, Op.unary], VR.bool _, h5.symm⟩
theorem p_neg (h : St M bx N C0 w0 L C β fr G a w) {x : Opd} {t : TypeId} {X : Operand} (hx : OpR M x X) (he : evOp call mt fr G (.neg x) = some (v, G')) :
    ∃ V, (execOp a.eval ⟨dst, .unOp .neg t X, ty, pos, after, guard⟩).run M.P w = .ok (.value V) w ∧ EvR M bx C β fr v V ∧ G' = G := by
    have h1 := h.ev hx
    simp only [evOp] at he
    generalize x.ev fr = xv at h1 he
    cases xv <;> simp only at he <;> try (cases he; done)
    injection he with he; injection he with h4 h5
    subst h4
    exact ⟨_, by simp [execOp, vr_int h1, Op.unary, Op.intArith], VR.int _ _, h5.symm⟩
theorem p_fld (h : St M bx N C0 w0 L C β fr G a w) {off : Nat} {x : Opd} {s : TypeId} {X : Operand} {i : Nat} {fields : Array Field} {f : Field} (hx : OpR M x X) (hs : M.P.underlying s = some (.struct fields)) (hf : fields[i]? = some f) (ho : f.offset = off) (hn : ∃ n, (M.P.info? f.type).map (·.size) = some n ∧ n ≠ 0) (he : evOp call mt fr G (.fld off x) = some (v, G')) :
    ∃ V, (execOp a.eval ⟨dst, .fieldAddr s X i, ty, pos, after, guard⟩).run M.P w = .ok (.value V) w ∧ EvR M bx C β fr v V ∧ G' = G := by
    obtain ⟨n, hn, hn0⟩ := hn
    have h1 := h.ev hx
    simp only [evOp] at he
    have key : ∀ (b p : Nat), a.eval X = .pointer (some ⟨b, p, none⟩) → (execOp a.eval ⟨dst, .fieldAddr s X i, ty, pos, after, guard⟩).run M.P w = .ok (.value (.pointer (some ⟨b, p + off, none⟩))) w := by
      intro b p hA
      simp only [execOp, hA, Instr.fieldAt, Sem.run_bind, run_underlying hs, Result.andThen_ok, hf, Instr.sureAddr, Sem.run_pure, fieldPlace, run_sizeOf hn]
      simp [hn0, Addr.add_lit, ho]
    generalize x.ev fr = xv at h1 he
    cases xv <;> simp only at he <;> try (cases he; done)
    case ptr id j c =>
      injection he with he; injection he with h4 h5
      subst h4
      obtain ⟨hid, hA⟩ := vr_ptr (show VR M C (.ptr id j c) (a.eval X) from h1)
      refine ⟨_, key _ _ hA, ?_, h5.symm⟩
      rw [Nat.add_assoc]
      exact VR.ptr _ _ _ hid
    case pptr d c =>
      injection he with he; injection he with h4 h5
      subst h4
      exact ⟨_, key _ _ h1.1, ⟨rfl, h1.2⟩, h5.symm⟩
    case iptr es j c =>
      injection he with he; injection he with h4 h5
      subst h4
      obtain ⟨z, b, p, hA, hli⟩ := vr_iptr (show VR M C (.iptr es j c) (a.eval X) from h1)
      refine ⟨_, key _ _ hA, ?_, h5.symm⟩
      rw [Nat.add_assoc, Nat.add_assoc]
      exact hli.iptr j (c + off)
theorem p_idx (h : St M bx N C0 w0 L C β fr G a w) {z : Nat} {x i : Opd} {t e : TypeId} {X I : Operand} (hx : OpR M x X) (hi : OpR M i I) (ht : M.P.underlying t = some (.slice e)) (hz : (M.P.info? e).map (·.size) = some z) (he : evOp call mt fr G (.idx z x i) = some (v, G')) :
    ∃ V, (execOp a.eval ⟨dst, .indexAddr t X I, ty, pos, after, guard⟩).run M.P w = .ok (.value V) w ∧ EvR M bx C β fr v V ∧ G' = G := by
    have h1 := h.ev hx; have h2 := h.ev hi
    simp only [evOp] at he
    generalize x.ev fr = xv at h1 he
    generalize i.ev fr = iv at h2 he
    have key : ∀ (b p len cap : Nat) (k : IntKind) (n : Int), a.eval X = .slice (some ⟨b, p, none⟩) len cap → a.eval I = .int k n → 0 ≤ n → n < len → (execOp a.eval ⟨dst, .indexAddr t X I, ty, pos, after, guard⟩).run M.P w = .ok (.value (.pointer (some ⟨b, p + n.toNat * z, none⟩))) w := by
      intro b p len cap k n hA hB h0 h3
      simp only [execOp, hA, hB, Instr.indexAt, asIntOf, Sem.run_bind, run_underlying ht, Result.andThen_ok, Sem.run_pure]
      simp [h0, h3, run_sizeOf hz, Addr.add_lit]
    cases xv <;> cases iv <;> simp only at he <;> try (cases he; done)
    case slice.int id off len k n =>
      split at he
      · rename_i hc
        simp only [Option.bind_eq_some_iff] at he
        obtain ⟨es, hes, e1, he1, he⟩ := he
        split at he
        · rename_i hz1
          injection he with he; injection he with h4 h5
          subst h4
          have hb := vr_int (show VR M C (.int k n) (a.eval I) from h2)
          obtain ⟨_, cur, ty1, hblk, ho⟩ := h.gr.ob id es hes
          have hzz : (C.io id).esz = z := by rw [← (ho.el _ _ he1).1, hz1]
          obtain ⟨cap, A, hA, hid, hl, ha⟩ := vr_slice (show VR M C (.slice id off len) (a.eval X) from h1)
          rcases ha with ⟨rfl, hcap⟩ | hcap
          · refine ⟨_, key _ _ _ _ _ _ hA hb hc.1 hc.2, ?_, h5.symm⟩
            have := VR.ptr (M := M) (C := C) id (off + n.toNat) 0 hid
            rw [hzz, Nat.add_zero, Nat.add_mul] at this
            rw [hzz]
            exact this
          · omega
        · cases he
      · cases he
    case list.int es k n =>
      split at he
      · rename_i hc
        injection he with he; injection he with h4 h5
        subst h4
        have hb := vr_int (show VR M C (.int k n) (a.eval I) from h2)
        obtain ⟨z', b, p, cap, A, hA, hl, hA', hli⟩ := vr_list (show VR M C (.list es) (a.eval X) from h1)
        have hne : es ≠ [] := by rintro rfl; simp at hc; omega
        have hzz : z' = z := by
          obtain ⟨e0, he0⟩ := List.exists_mem_of_ne_nil es hne
          rw [← hli.hz e0 he0, hc.2.2 e0 he0]
        subst hzz
        rw [hA' hne] at hA
        refine ⟨_, key _ _ _ _ _ _ hA hb hc.1 hc.2.1, ?_, h5.symm⟩
        have := hli.iptr n.toNat 0
        exact evR_of_VR (by simpa using this)
      · cases he
theorem p_ext (h : St M bx N C0 w0 L C β fr G a w) {x : Opd} {X : Operand} {i : Nat} (hx : OpR M x X) (he : evOp call mt fr G (.ext x i) = some (v, G')) :
    ∃ V, (execOp a.eval ⟨dst, .extract X i, ty, pos, after, guard⟩).run M.P w = .ok (.value V) w ∧ EvR M bx C β fr v V ∧ G' = G := by
    have h1 := h.ev hx
    simp only [evOp] at he
    generalize x.ev fr = xv at h1 he
    cases xv <;> simp only at he <;> try (cases he; done)
    rename_i vs
    simp only [Option.bind_eq_some_iff] at he
    obtain ⟨v', hv', he⟩ := he
    injection he with he; injection he with h4 h5
    subst h4
    have hv : VR M C (.tuple vs) (a.eval X) := h1
    cases hA : a.eval X <;> rw [hA] at hv <;> cases hv
    rename_i arr hl hh
    have hlt : i < arr.size := by rw [← hl]; exact (List.getElem?_eq_some_iff.1 hv').1
    exact ⟨arr[i], by simp [execOp, hA, Instr.extract, Array.getElem?_eq_getElem hlt], evR_of_VR (hh i _ _ hv' (Array.getElem?_eq_getElem hlt)), h5.symm⟩
theorem p_fieldv (h : St M bx N C0 w0 L C β fr G a w) {off : Nat} {k : Option Nat} {x : Opd} {s : TypeId} {X : Operand} {i : Nat} {fields : Array Field} {f : Field} (hx : OpR M x X) (hs : M.P.underlying s = some (.struct fields)) (hf : fields[i]? = some f) (ho : f.offset = off) (hl : LdT M.P k f.type) (he : evOp call mt fr G (.fieldv off k x) = some (v, G')) :
    ∃ V, (execOp a.eval ⟨dst, .field s X i, ty, pos, after, guard⟩).run M.P w = .ok (.value V) w ∧ EvR M bx C β fr v V ∧ G' = G := by
    have h1 := h.ev hx
    simp only [evOp] at he
    generalize x.ev fr = xv at h1 he
    cases xv <;> simp only at he <;> try (cases he; done)
    rename_i cs
    simp only [Option.bind_eq_some_iff] at he
    obtain ⟨v', hv', he⟩ := he
    injection he with he; injection he with h4 h5
    subst h4
    obtain ⟨arr, hA, har⟩ := ArR.of_vr (VR_of_EvR h1 (by simp) (by simp) (by simp))
    have hpart : ∃ V, (part f.type arr off).run M.P w = .ok V w ∧ VR M C v' V := by
      cases k with
      | none =>
        obtain ⟨d, hd, ha⟩ := hl
        have hlt : off < arr.size := by rw [← har.len]; exact (List.getElem?_eq_some_iff.1 hv').1
        refine ⟨arr[off], ?_, (har.at_ off _ _ hv' (Array.getElem?_eq_getElem hlt)).v⟩
        simp only [part, Sem.run_bind, run_isAgg hd, Result.andThen_ok, ha]
        simp [Array.getElem?_eq_getElem hlt]
      | some n =>
        obtain ⟨⟨d, hd, ha⟩, hs'⟩ := hl
        simp only [ldv] at hv'
        split at hv'
        · rename_i hle
          injection hv' with hv'
          subst hv'
          refine ⟨.agg (arr.extract off (off + n)), ?_, ArR.vr ⟨?_, fun i x y hx hy => ?_⟩⟩
          · simp only [part, Sem.run_bind, run_isAgg hd, Result.andThen_ok, ha, if_true, run_sizeOf hs', Sem.run_pure]
          · have := har.len
            simp; omega
          · simp only [List.getElem?_take] at hx
            split at hx
            · rw [List.getElem?_drop] at hx
              rw [Array.getElem?_extract] at hy
              split at hy
              · exact har.at_ _ x y hx hy
              · cases hy
            · cases hx
        · cases hv'
    obtain ⟨V, h6, h7⟩ := hpart
    refine ⟨V, ?_, evR_of_VR h7, h5.symm⟩
    simp only [execOp, hA, Instr.field, Sem.run_bind, run_underlying hs, Result.andThen_ok, hf, asAgg, Sem.run_pure, ho, h6]
theorem p_len (h : St M bx N C0 w0 L C β fr G a w) {x : Opd} {X : Operand} {t : TypeId} (hx : OpR M x X) (ht : ∃ e, M.P.underlying t = some (.slice e)) (he : evOp call mt fr G (.len x) = some (v, G')) :
    ∃ V, (execOp a.eval ⟨dst, .call { callee := .builtin .len, args := #[X], argTypes := #[t] }, ty, pos, after, guard⟩).run M.P w = .ok (.value V) w ∧ EvR M bx C β fr v V ∧ G' = G := by
    have h1 := h.ev hx
    simp only [evOp] at he
    generalize x.ev fr = xv at h1 he
    have key : ∀ (V : Value) (n : Nat), a.eval X = V → (∀ ty, (Builtin.len_ #[t] ty #[V]).run M.P w = .ok (goInt n) w) → (execOp a.eval ⟨dst, .call { callee := .builtin .len, args := #[X], argTypes := #[t] }, ty, pos, after, guard⟩).run M.P w = .ok (.value (.int .i64 n)) w := by
      intro V n hA hr
      simp only [execOp, resolve, Sem.run_bind, Sem.run_pure, Result.andThen_ok, invoke, builtin, List.map_toArray, List.map_cons, List.map_nil, hA, hr]
      rfl
    cases xv <;> simp only at he <;> try (cases he; done)
    all_goals
      injection he with he; injection he with h4 h5
      subst h4
    · obtain ⟨A, hA⟩ := vr_nils (show VR M C .nils (a.eval X) from h1)
      obtain ⟨e, ht⟩ := ht
      exact ⟨_, key _ 0 hA (fun ty => by simp [Builtin.len_, run_underlying ht]), VR.int _ _, h5.symm⟩
    · obtain ⟨cap, A, hA, _⟩ := vr_slice (show VR M C (.slice _ _ _) (a.eval X) from h1)
      obtain ⟨e, ht⟩ := ht
      exact ⟨_, key _ _ hA (fun ty => by simp [Builtin.len_, run_underlying ht]), VR.int _ _, h5.symm⟩
    · obtain ⟨z', b, p, cap, A, hA, _⟩ := vr_list (show VR M C (.list _) (a.eval X) from h1)
      obtain ⟨e, ht⟩ := ht
      exact ⟨_, key _ _ hA (fun ty => by simp [Builtin.len_, run_underlying ht]), VR.int _ _, h5.symm⟩
theorem p_mkf (h : St M bx N C0 w0 L C β fr G a w) {f : Nat} {k : FuncId} {caps : List Opd} {Caps : Array Operand} (hf : M.fm f = some k) (hl : caps.length = Caps.size) (hc : ∀ (i : Nat) x X, caps[i]? = some x → Caps[i]? = some X → OpR M x X) (he : evOp call mt fr G (.mkf f caps) = some (v, G')) :
    ∃ V, (execOp a.eval ⟨dst, .makeFunc (.func k) #[] Caps, ty, pos, after, guard⟩).run M.P w = .ok (.value V) w ∧ EvR M bx C β fr v V ∧ G' = G := by
    simp only [evOp, Option.bind_eq_some_iff] at he
    obtain ⟨cs, hcs, he⟩ := he
    injection he with he; injection he with h4 h5
    subst h4
    obtain ⟨h1, h2⟩ := h.gevs hcs hl hc
    exact ⟨.func (.func k) #[] (Caps.map a.eval), by simp [execOp, Instr.makeFunc], VR.func f k cs _ hf h1 h2, h5.symm⟩
theorem p_mki (h : St M bx N C0 w0 L C β fr G a w) {tag : Nat} {t : TypeId} {x : Opd} {X : Operand} (hx : OpR M x X) (ht : M.tm tag = some t) (hc : M.P.concrete t = true) (he : evOp call mt fr G (.mki tag x) = some (v, G')) :
    ∃ V, (execOp a.eval ⟨dst, .makeInterface t X, ty, pos, after, guard⟩).run M.P w = .ok (.value V) w ∧ EvR M bx C β fr v V ∧ G' = G := by
    simp only [evOp, Option.bind_eq_some_iff] at he
    obtain ⟨xv, hxv, he⟩ := he
    injection he with he; injection he with h4 h5
    subst h4
    exact ⟨.iface t (a.eval X), by simp [execOp, run_makeInterface w t _ hc], VR.iface tag t _ _ ht (h.gev hx hxv), h5.symm⟩
theorem p_sl (h : St M bx N C0 w0 L C β fr G a w) {z : Nat} {x : Opd} {lo hi : Option Opd} {t e : TypeId} {X : Operand} {Lo Hi : Option Operand} (hx : OpR M x X) (hlo : OptR M lo Lo) (hhi : OptR M hi Hi) (ht : M.P.underlying t = some (.slice e)) (hz : (M.P.info? e).map (·.size) = some z) (he : evOp call mt fr G (.sl z x lo hi) = some (v, G')) :
    ∃ V, (execOp a.eval ⟨dst, .slice t X Lo Hi none, ty, pos, after, guard⟩).run M.P w = .ok (.value V) w ∧ EvR M bx C β fr v V ∧ G' = G := by
    have h1 := h.ev hx
    simp only [evOp] at he
    generalize x.ev fr = xv at h1 he
    have hbd : ∀ (q : Option Opd) (Q : Option Operand) (d l y : Nat) (code : BoundsCode), OptR M q Q → boundOf (q.map (·.ev fr)) d = some l → l ≤ y → (match Q with | some X => (Instr.sliceBound (a.eval X) y code).run M.P w = .ok l w | none => l = d) := by
      intro q Q d l y code hq hb hy
      cases hq with
      | none => simp [boundOf] at hb; exact hb.symm
      | some x X hx =>
        have h3 := h.ev hx
        simp only [Option.map_some] at hb
        refine bound_ok (v := x.ev fr) (VR_of_EvR h3 ?_ ?_ ?_) hb hy <;> · intros; intro e; rw [e] at hb; simp [boundOf] at hb
    have key : ∀ (A : Option Addr) (len cap l hh : Nat), a.eval X = .slice A len cap → boundOf (lo.map (·.ev fr)) 0 = some l → boundOf (hi.map (·.ev fr)) len = some hh → l ≤ hh → hh ≤ len → len ≤ cap →
        (execOp a.eval ⟨dst, .slice t X Lo Hi none, ty, pos, after, guard⟩).run M.P w = .ok (.value (.slice (if cap = l then A else A.map (·.add (l * z))) (hh - l) (cap - l))) w := by
      intro A len cap l hh hA hl hh' h3 h4 h5
      have b1 := hbd lo Lo 0 l hh .sliceB hlo hl h3
      have b2 := hbd hi Hi len hh cap .sliceAcap hhi hh' (by omega)
      simp only [execOp, Instr.sliceAt, Sem.run_bind, run_underlying ht, Result.andThen_ok, Instr.slice, hA, Instr.sliceBounds]
      cases Lo <;> cases Hi <;> simp only [Option.map_none, Option.map_some, Option.isSome_none, Bool.false_eq_true, if_false, Sem.run_bind, Sem.run_pure, Result.andThen_ok, if_true] at b1 b2 ⊢
      · subst b1 b2; simp [run_sizeOf hz]
      · subst b1; simp [b2, run_sizeOf hz]
      · subst b2; simp [b1, run_sizeOf hz]
      · simp [b1, b2, run_sizeOf hz]
    cases xv <;> simp only at he <;> try (cases he; done)
    case list es =>
      simp only [Option.bind_eq_some_iff] at he
      obtain ⟨l, hl, hh, hhh, he⟩ := he
      split at he
      · rename_i hc
        injection he with he; injection he with h4 h5
        subst h4
        obtain ⟨z', b, p, cap, A, hA, hle, hA', hli⟩ := vr_list (show VR M C (.list es) (a.eval X) from h1)
        refine ⟨_, key _ _ _ _ _ hA hl hhh hc.1 hc.2.1 hle, ?_, h5.symm⟩
        have hlen : ((es.drop l).take (hh - l)).length = hh - l := by have := hc.2.1; simp; omega
        have := (hli.sub l (hh - l)).list (cap := cap - l) (A := if cap = l then A else A.map (·.add (l * z))) (by have := hc.2.1; rw [hlen]; omega) (by
          intro hne
          have hne2 : es ≠ [] := by rintro rfl; simp at hne
          have hzz : z' = z := by
            obtain ⟨e0, he0⟩ := List.exists_mem_of_ne_nil es hne2
            rw [← hli.hz e0 he0, hc.2.2 e0 he0]
          have hlt : l < hh := by
            rcases Nat.lt_or_ge l hh with hlt | hge
            · exact hlt
            · exfalso; apply hne; apply List.eq_nil_of_length_eq_zero; rw [hlen]; omega
          have := hc.2.1
          rw [if_neg (by omega), hA' hne2]
          simp [Addr.add_lit, hzz])
        rw [hlen] at this
        exact this
      · cases he
    case slice id off len =>
      simp only [Option.bind_eq_some_iff] at he
      obtain ⟨l, hl, hh, hhh, he⟩ := he
      split at he
      · rename_i hc
        simp only [Option.bind_eq_some_iff] at he
        obtain ⟨es, hes, he⟩ := he
        split at he
        · rename_i hz1
          injection he with he; injection he with h4 h5
          subst h4
          obtain ⟨_, cur, ty1, hblk, ho⟩ := h.gr.ob id es hes
          have hzz : (C.io id).esz = z := by
            obtain ⟨e0, he0⟩ := List.exists_mem_of_ne_nil es hz1.1
            obtain ⟨i0, hi0, rfl⟩ := List.getElem_of_mem he0
            rw [← (ho.el i0 _ (List.getElem?_eq_getElem hi0)).1, hz1.2 _ he0]
          obtain ⟨cap, A, hA, hid, hle, ha⟩ := vr_slice (show VR M C (.slice id off len) (a.eval X) from h1)
          refine ⟨_, key _ _ _ _ _ hA hl hhh hc.1 hc.2 hle, ?_, h5.symm⟩
          by_cases hcl : cap = l
          · rw [if_pos hcl]
            exact VR.slice id (off + l) (hh - l) (cap - l) A hid (by omega) (.inr (by omega))
          · rw [if_neg hcl]
            simp only [Option.map_some]
            refine VR.slice id (off + l) (hh - l) (cap - l) _ hid (by omega) ?_
            rcases ha with ⟨rfl, hcap⟩ | hcap
            · left
              refine ⟨?_, by omega⟩
              rw [Addr.add_lit, hzz, Nat.add_mul]
            · right; omega
        · cases he
      · cases he
    case nils =>
      simp only [Option.bind_eq_some_iff] at he
      obtain ⟨l, hl, hh, hhh, he⟩ := he
      split at he
      · rename_i hc
        obtain ⟨rfl, rfl⟩ := hc
        injection he with he; injection he with h4 h5
        subst h4
        obtain ⟨A, hA⟩ := vr_nils (show VR M C .nils (a.eval X) from h1)
        exact ⟨_, key A 0 0 0 0 hA hl hhh (Nat.le_refl _) (Nat.le_refl _) (Nat.le_refl _), VR.nils _, h5.symm⟩
      · cases he
theorem vr_sl {C : Cx} {x : AVal} {V : Value} (h : VR M C x V) (hx : (∃ es, x = .list es) ∨ (∃ i o n, x = .slice i o n) ∨ x = .nils) : ∃ A len cap, V = .slice A len cap ∧ len ≤ cap := by
  rcases hx with ⟨es, rfl⟩ | ⟨i, o, n, rfl⟩ | rfl
  · obtain ⟨z, b, o, cap, A, h1, h2, _⟩ := vr_list h; exact ⟨A, _, cap, h1, h2⟩
  · obtain ⟨cap, A, h1, _, h2, _⟩ := vr_slice h; exact ⟨_, _, _, h1, h2⟩
  · obtain ⟨A, h1⟩ := vr_nils h; exact ⟨A, 0, 0, h1, Nat.le_refl _⟩
theorem p_sl0 (h : St M bx N C0 w0 L C β fr G a w) {x : Opd} {t e : TypeId} {X : Operand} {n n' : IntKind} (hx : OpR M x X) (ht : M.P.underlying t = some (.slice e)) (hz : ∃ z, (M.P.info? e).map (·.size) = some z) (he : evOp call mt fr G (.sl0 x) = some (v, G')) :
    ∃ V, (execOp a.eval ⟨dst, .slice t X none (some (.const (.int n 0))) (some (.const (.int n' 0))), ty, pos, after, guard⟩).run M.P w = .ok (.value V) w ∧ EvR M bx C β fr v V ∧ G' = G := by
    have h1 := h.ev hx
    obtain ⟨z, hz⟩ := hz
    simp only [evOp] at he
    have hv : VR M C (x.ev fr) (a.eval X) := VR_of_EvR h1 (by intros; intro e; rw [e] at he; cases he) (by intros; intro e; rw [e] at he; cases he) (by intro e; rw [e] at he; cases he)
    generalize x.ev fr = xv at hv he
    have hs : (∃ es, xv = .list es) ∨ (∃ i o n, xv = .slice i o n) ∨ xv = .nils := by
      cases xv <;> first | (cases he; done) | exact .inl ⟨_, rfl⟩ | exact .inr (.inl ⟨_, _, _, rfl⟩) | exact .inr (.inr rfl)
    obtain ⟨A, len, cap, hA, hle⟩ := vr_sl hv hs
    have hvv : v = .nils ∧ G = G' := by
      rcases hs with ⟨es, rfl⟩ | ⟨i, o, n, rfl⟩ | rfl <;> (injection he with he; injection he with h4 h5; exact ⟨h4.symm, h5⟩)
    obtain ⟨rfl, h5⟩ := hvv
    refine ⟨.slice (if 0 = 0 then A else A) 0 0, ?_, VR.nils _, h5.symm⟩
    have c1 : a.eval (.const (.int n 0)) = .int n 0 := rfl
    have c2 : a.eval (.const (.int n' 0)) = .int n' 0 := rfl
    simp only [execOp, Instr.sliceAt, Sem.run_bind, run_underlying ht, Result.andThen_ok, Instr.slice, hA, Instr.sliceBounds, Option.map_some, Option.map_none, c1, c2]
    simp [Instr.sliceBound, asIntOf, run_sizeOf hz]
theorem p_isnil (h : St M bx N C0 w0 L C β fr G a w) {x : Opd} {t t' e : TypeId} {X : Operand} {n c : Nat} (hx : OpR M x X) (ht : M.P.underlying t = some (.slice e)) (he : evOp call mt fr G (.isnil false x) = some (v, G')) :
    ∃ V, (execOp a.eval ⟨dst, .binOp .eql t X (.const (.slice none n c)) t', ty, pos, after, guard⟩).run M.P w = .ok (.value V) w ∧ EvR M bx C β fr v V ∧ G' = G := by
    have h1 := h.ev hx
    simp only [evOp] at he
    have hv : VR M C (x.ev fr) (a.eval X) := VR_of_EvR h1 (by intros; intro e; rw [e] at he; cases he) (by intros; intro e; rw [e] at he; cases he) (by intro e; rw [e] at he; cases he)
    generalize x.ev fr = xv at hv he
    have key : ∀ A len cap, a.eval X = .slice A len cap → (execOp a.eval ⟨dst, .binOp .eql t X (.const (.slice none n c)) t', ty, pos, after, guard⟩).run M.P w = .ok (.value (.bool A.isNone)) w := by
      intro A len cap hA
      have c1 : a.eval (.const (.slice none n c)) = .slice none n c := rfl
      have c2 : (eqGuard .eql t X (.const (.slice none n c)) (.slice A len cap) (.slice none n c)).run M.P w = .ok () w := rfl
      simp only [execOp, hA, c1, Sem.run_bind, c2, Result.andThen_ok, Lib.run_eql_slice_nil w t e A len cap n c ht, Sem.run_pure]
    cases xv <;> try (cases he; done)
    case nils =>
      obtain ⟨A, hA⟩ := vr_nils hv
      injection he with he; injection he with h4 h5
      subst h4
      exact ⟨_, key _ _ _ hA, VR.anyb _, h5.symm⟩
    case slice i o m =>
      obtain ⟨cap, A, hA, _⟩ := vr_slice hv
      injection he with he; injection he with h4 h5
      refine ⟨_, key _ _ _ hA, ?_, h5.symm⟩
      subst h4
      split
      · exact VR.anyb _
      · exact VR.bool false
    case list es =>
      obtain ⟨z, b, o, cap, A, hA, _, hA', _⟩ := vr_list hv
      injection he with he; injection he with h4 h5
      refine ⟨_, key _ _ _ hA, ?_, h5.symm⟩
      subst h4
      by_cases h0 : es = []
      · rw [if_pos h0]; exact VR.anyb _
      · rw [if_neg h0, hA' h0]; exact VR.bool false
theorem p_mkm (h : St M bx N C0 w0 L C β fr G a w) {x : Opd} {X : Operand} {nm : String} (hx : OpR M x X) (ht : ∀ t ∈ M.tl, ∃ k, PtrMeth M.P t nm k) (he : evOp call mt fr G (.mkm x) = some (v, G')) :
    ∃ V, (execOp a.eval ⟨dst, .makeFunc (.method nm) #[X] #[], ty, pos, after, guard⟩).run M.P w = .ok (.value V) w ∧ EvR M bx C β fr v V ∧ G' = G := by
    have h1 := h.ev hx
    simp only [evOp] at he
    generalize x.ev fr = xv at h1 he
    cases xv <;> simp only at he <;> try (cases he; done)
    rename_i tag u
    injection he with he; injection he with h4 h5
    subst h4
    obtain ⟨t, W, hA, ht', _⟩ := vr_iface (show VR M C (.iface tag u) (a.eval X) from h1)
    obtain ⟨k, hk⟩ := ht t (List.mem_of_getElem? ht')
    exact ⟨_, by simp [execOp, Instr.makeFunc, hA], VR.meth nm t W k hk, h5.symm⟩
theorem p_conv (h : St M bx N C0 w0 L C β fr G a w) {k : IntKind} {x : Opd} {s d : TypeId} {X : Operand} (hx : OpR M x X) (hs : ∃ k', M.P.underlying s = some (.int k')) (hd : M.P.underlying d = some (.int k)) (he : evOp call mt fr G (.conv k x) = some (v, G')) :
    ∃ V, (execOp a.eval ⟨dst, .convert s d X, ty, pos, after, guard⟩).run M.P w = .ok (.value V) w ∧ EvR M bx C β fr v V ∧ G' = G := by
    obtain ⟨k', hs⟩ := hs
    have h1 := h.ev hx
    simp only [evOp] at he
    generalize x.ev fr = xv at h1 he
    cases xv <;> simp only at he <;> try (cases he; done)
    injection he with he; injection he with h4 h5
    subst h4
    have e1 := vr_int h1
    exact ⟨_, by simp [execOp, e1, convert, run_underlying hs, run_underlying hd, Conv.intToInt], VR.int _ _, h5.symm⟩
theorem p_mxn (h : St M bx N C0 w0 L C β fr G a w) {x y : Opd} {X Y : Operand} {ts : Array TypeId} (hx : OpR M x X) (hy : OpR M y Y) (he : evOp call mt fr G (.mxn true [x, y]) = some (v, G')) :
    ∃ V, (execOp a.eval ⟨dst, .call { callee := .builtin .max, args := #[X, Y], argTypes := ts }, ty, pos, after, guard⟩).run M.P w = .ok (.value V) w ∧ EvR M bx C β fr v V ∧ G' = G := by
    simp only [evOp, Option.bind_eq_some_iff] at he
    obtain ⟨vs, hvs, he⟩ := he
    simp only [Ai.gevs, Option.bind_eq_some_iff] at hvs
    obtain ⟨xv, hxv, t1, ⟨yv, hyv, t2, ht2, ht1⟩, hvs⟩ := hvs
    injection ht2 with ht2; injection ht1 with ht1; injection hvs with hvs
    subst ht2 ht1 hvs
    have h1 := h.gev hx hxv; have h2 := h.gev hy hyv
    cases xv <;> cases yv <;> simp only at he <;> try (cases he; done)
    rename_i k m k' n
    split at he
    · rename_i hk
      subst hk
      injection he with he; injection he with h4 h5
      subst h4
      have e1 := vr_int h1
      have e2 := vr_int h2
      refine ⟨_, ?_, VR.int _ _, h5.symm⟩
      simp [execOp, resolve, invoke, builtin, e1, e2, Builtin.max_, Builtin.max2]
    · cases he

theorem p_mnn (h : St M bx N C0 w0 L C β fr G a w) {x y : Opd} {X Y : Operand} {ts : Array TypeId} (hx : OpR M x X) (hy : OpR M y Y) (he : evOp call mt fr G (.mxn false [x, y]) = some (v, G')) :
    ∃ V, (execOp a.eval ⟨dst, .call { callee := .builtin .min, args := #[X, Y], argTypes := ts }, ty, pos, after, guard⟩).run M.P w = .ok (.value V) w ∧ EvR M bx C β fr v V ∧ G' = G := by
    simp only [evOp, Option.bind_eq_some_iff] at he
    obtain ⟨vs, hvs, he⟩ := he
    simp only [Ai.gevs, Option.bind_eq_some_iff] at hvs
    obtain ⟨xv, hxv, t1, ⟨yv, hyv, t2, ht2, ht1⟩, hvs⟩ := hvs
    injection ht2 with ht2; injection ht1 with ht1; injection hvs with hvs
    subst ht2 ht1 hvs
    have h1 := h.gev hx hxv; have h2 := h.gev hy hyv
    cases xv <;> cases yv <;> simp only at he <;> try (cases he; done)
    rename_i k m k' n
    split at he
    · rename_i hk
      subst hk
      injection he with he; injection he with h4 h5
      subst h4
      have e1 := vr_int h1
      have e2 := vr_int h2
      refine ⟨_, ?_, VR.int _ _, h5.symm⟩
      simp [execOp, resolve, invoke, builtin, e1, e2, Builtin.min_, Builtin.min2]
    · cases he

end
end Go.Ai
set_option linter.unusedVariables false
set_option linter.unusedSimpArgs false
namespace Go.Ai
variable {M : SM}
section
variable {bx : List Nat} {N : Nat} {C0 : Cx} {w0 : World} {L : Nat → Prop} {C C' : Cx} {β : Nat → Nat} {fr : Fr} {G G' : AG} {a : Act} {w w' : World}

theorem heap_new (w : World) (o : Obj) : (w.alloc o).heap[w.heap.size]? = some o := by
  show (w.heap.push o)[w.heap.size]? = _
  simp
theorem heap_old (w : World) (o : Obj) {b : Nat} {x : Obj} (h : w.heap[b]? = some x) : (w.alloc o).heap[b]? = some x := by
  rw [RowKit.Below.heap_alloc w o b (Array.getElem?_eq_some_iff.1 h).1]; exact h

theorem St.step (h : St M bx N C0 w0 L C β fr G a w) (hle : C.le C') (hgr : GR M C' G' w') (hun : Un w w' (live C G)) (hl : ∀ b, live C' G' b → live C G b ∨ w.heap.size ≤ b)
    (him : ∀ b arr, C'.im b = some arr → C.im b = some arr ∨ live C G b ∨ w.heap.size ≤ b) : St M bx N C0 w0 L C' β fr G' a w' := by
  have hw : w0.heap.size ≤ w.heap.size := h.un.size
  refine ⟨h.le.trans hle, h.un.trans hun (fun b hb => h.mine b hb), hgr, fun b hb => ?_, h.size, h.defers, fun t => ?_, fun t cs ht => ?_, h.apart, h.pp, fun b arr hb => ?_⟩
  · rcases hl b hb with h1 | h1
    · exact h.mine b h1
    · right; omega
  · have := h.slot t
    unfold SlotR at *
    split <;> simp_all
    all_goals exact VR.mono hle this
  · obtain ⟨h1, h2, ⟨cur, ty, h3, h4, h5⟩, h6, h7⟩ := h.box t cs ht
    have hlt : β t < w.heap.size := (Array.getElem?_eq_some_iff.1 h3).1
    refine ⟨h1, h2, ⟨cur, ty, by rw [hun.blk _ hlt h6]; exact h3, h4, h5.mono hle⟩, fun hb => ?_, ?_⟩
    · rcases hl _ hb with h8 | h8
      · exact h6 h8
      · omega
    · cases hi : C'.im (β t) with
      | none => rfl
      | some arr =>
        rcases him _ arr hi with h8 | h8 | h8
        · rw [h7] at h8; cases h8
        · exact absurd h8 h6
        · omega
  · rcases him b arr hb with h1 | h1 | h1
    · exact h.ims b arr h1
    · exact .inr (h.mine b h1)
    · right; right; omega

/-- A new object in a new block. -/
def newCx (C : Cx) (id : Nat) (o : OI) : Cx := ⟨id + 1, fun i => if i = id then o else C.io i, C.im⟩
theorem newC_le {id : Nat} {o : OI} (hn : C.n = id) : C.le (newCx C id o) := ⟨by rw [hn]; exact Nat.le_succ _, fun i hi => by simp only [newCx]; rw [if_neg (by omega)], fun b arr hb => hb⟩
theorem GR.add (h : GR M C G w) {o : OI} {es : Obj'} {w' : World} {G1 : Heap'} (hG1 : ∀ id es', G1 id = some es' → G.obj id = some es') (hgood : ∀ id es', G1 id = some es' → (C.io id).blk ≠ o.blk) (himg : ∀ arr, C.im o.blk ≠ some arr)
    (hold : ∀ b, b < w.heap.size → b ≠ o.blk → w'.heap[b]? = w.heap[b]?)
    (hnew : ∃ cur ty, w'.heap[o.blk]? = some (.cells cur ty (0, 0)) ∧ ObR M (newCx C G.next o) o es cur) : GR M (newCx C G.next o) ⟨G.next + 1, updO G1 G.next (some es)⟩ w' := by
  have hle : C.le (newCx C G.next o) := newC_le h.n
  have hio : ∀ id, id < G.next → (newCx C G.next o).io id = C.io id := fun id hid => by simp only [newCx]; rw [if_neg (by omega)]
  have hcase : ∀ id es', updO G1 G.next (some es) id = some es' → (id = G.next ∧ es' = es) ∨ (id < G.next ∧ G1 id = some es') := by
    intro id es' hid
    simp only [updO] at hid
    split at hid
    · rename_i e; injection hid with hid; exact .inl ⟨e, hid.symm⟩
    · exact .inr ⟨(h.ob id es' (hG1 id es' hid)).1, hid⟩
  have hself : (newCx C G.next o).io G.next = o := by simp [newCx]
  refine ⟨rfl, fun id es' hid => ?_, fun id id' es1 es2 h1 h2 hne => ?_, fun b arr hb => ?_⟩
  · rcases hcase id es' hid with ⟨rfl, rfl⟩ | ⟨hlt, hid'⟩
    · refine ⟨Nat.lt_succ_self _, ?_⟩
      rw [hself]; exact hnew
    · obtain ⟨_, cur, ty, h3, h4⟩ := h.ob id es' (hG1 id es' hid')
      refine ⟨Nat.lt_succ_of_lt hlt, cur, ty, ?_, ?_⟩
      · rw [hio id hlt, hold _ (Array.getElem?_eq_some_iff.1 h3).1 (hgood id es' hid')]; exact h3
      · rw [hio id hlt]; exact h4.mono hle
  · rcases hcase id es1 h1 with ⟨rfl, rfl⟩ | ⟨hlt, hid'⟩ <;> rcases hcase id' es2 h2 with ⟨rfl, rfl⟩ | ⟨hlt', hid''⟩
    · exact absurd rfl hne
    · rw [hself, hio id' hlt']; exact fun e => hgood id' es2 hid'' e.symm
    · rw [hself, hio id hlt]; exact fun e => hgood id es1 hid' e
    · rw [hio id hlt, hio id' hlt']; exact h.inj id id' es1 es2 (hG1 _ _ hid') (hG1 _ _ hid'') hne
  · have hb' : C.im b = some arr := hb
    obtain ⟨⟨ty, f, h3⟩, h4⟩ := h.im b arr hb'
    have hbo : b ≠ o.blk := by rintro rfl; exact himg arr hb'
    refine ⟨⟨ty, f, by rw [hold b (Array.getElem?_eq_some_iff.1 h3).1 hbo]; exact h3⟩, fun id es' hid => ?_⟩
    rcases hcase id es' hid with ⟨rfl, rfl⟩ | ⟨hlt, hid'⟩
    · rw [hself]; exact fun e => hbo e.symm
    · rw [hio id hlt]; exact h4 id es' (hG1 id es' hid')
theorem live_add {o : OI} {es : Obj'} {G1 : Heap'} (h : GR M C G w) (hG1 : ∀ id es', G1 id = some es' → G.obj id = some es') {b : Nat} (hb : live (newCx C G.next o) ⟨G.next + 1, updO G1 G.next (some es)⟩ b) : live C G b ∨ b = o.blk := by
  obtain ⟨id, es', hid, rfl⟩ := hb
  simp only [updO] at hid
  split at hid
  · rename_i e; subst e; right; simp [newCx]
  · rename_i e
    left
    exact ⟨id, es', hG1 id es' hid, by simp only [newCx]; rw [if_neg e]⟩
/-- A new object in a block that is made for it. -/
theorem St.new (h : St M bx N C0 w0 L C β fr G a w) {esz cap : Nat} {es : Obj'} {cur : Array Value} {ty : TypeId} (ho : ObR M C ⟨w.heap.size, esz, cap⟩ es cur) :
    St M bx N C0 w0 L (newCx C G.next ⟨w.heap.size, esz, cap⟩) β fr ⟨G.next + 1, updO G.obj G.next (some es)⟩ a (w.alloc (.cells cur ty)) ∧ C.le (newCx C G.next ⟨w.heap.size, esz, cap⟩) := by
  have hle : C.le (newCx C G.next ⟨w.heap.size, esz, cap⟩) := newC_le h.gr.n
  refine ⟨h.step hle ?_ (Un.alloc w _ _ _) (fun b hb => ?_) (fun b arr hb => .inl hb), hle⟩
  · refine h.gr.add (fun _ _ hh => hh) (fun id es' hid e => ?_) (fun arr hb => ?_) (fun b hb _ => RowKit.Below.heap_alloc w _ b hb) ⟨cur, ty, heap_new w _, ho.mono hle⟩
    · have := h.gr.lt ⟨id, es', hid, rfl⟩
      have e' : (C.io id).blk = w.heap.size := e
      omega
    · have := h.gr.imlt hb
      have e' : w.heap.size < w.heap.size := this
      omega
  · rcases live_add h.gr (fun _ _ hh => hh) hb with h1 | h1
    · exact .inl h1
    · right; rw [h1]; exact Nat.le_refl _
/-- An object's content is turned. -/
theorem GR.set (h : GR M C G w) {id : Nat} {es es' : Obj'} {cur cur' : Array Value} {ty : TypeId} (hid : G.obj id = some es) (hb : w.heap[(C.io id).blk]? = some (.cells cur ty (0, 0))) (ho : ObR M C (C.io id) es' cur') :
    GR M C ⟨G.next, updO G.obj id (some es')⟩ (w.setRow (C.io id).blk cur') := by
  have hcase : ∀ i e, updO G.obj id (some es') i = some e → (i = id ∧ e = es') ∨ (i ≠ id ∧ G.obj i = some e) := by
    intro i e hi
    simp only [updO] at hi
    split at hi
    · rename_i e1; injection hi with hi; exact .inl ⟨e1, hi.symm⟩
    · rename_i e1; exact .inr ⟨e1, hi⟩
  have hblk : ∀ i e, updO G.obj id (some es') i = some e → ∃ e0, G.obj i = some e0 := by
    intro i e hi
    rcases hcase i e hi with ⟨rfl, _⟩ | ⟨_, h1⟩
    · exact ⟨es, hid⟩
    · exact ⟨e, h1⟩
  refine ⟨h.n, fun i e hi => ?_, fun i i' e e' h1 h2 hne => ?_, fun b arr hb' => ?_⟩
  · rcases hcase i e hi with ⟨rfl, rfl⟩ | ⟨hne, h1⟩
    · exact ⟨(h.ob i es hid).1, cur', ty, setRow_heap w _ cur cur' ty (0, 0) hb, ho⟩
    · obtain ⟨h2, c2, t2, h3, h4⟩ := h.ob i e h1
      exact ⟨h2, c2, t2, by rw [setRow_other w _ _ cur' (h.inj i id e es h1 hid hne)]; exact h3, h4⟩
  · obtain ⟨e1, h3⟩ := hblk i e h1
    obtain ⟨e2, h4⟩ := hblk i' e' h2
    exact h.inj i i' e1 e2 h3 h4 hne
  · obtain ⟨⟨t2, f2, h3⟩, h4⟩ := h.im b arr hb'
    refine ⟨⟨t2, f2, by rw [setRow_other w _ _ cur' (h4 id es hid).symm]; exact h3⟩, fun i e hi => ?_⟩
    obtain ⟨e0, h5⟩ := hblk i e hi
    exact h4 i e0 h5
theorem St.set (h : St M bx N C0 w0 L C β fr G a w) {id : Nat} {es es' : Obj'} {cur cur' : Array Value} {ty : TypeId} (hid : G.obj id = some es) (hb : w.heap[(C.io id).blk]? = some (.cells cur ty (0, 0))) (ho : ObR M C (C.io id) es' cur') :
    St M bx N C0 w0 L C β fr ⟨G.next, updO G.obj id (some es')⟩ a (w.setRow (C.io id).blk cur') := by
  refine h.step (Cx.le.refl C) (h.gr.set hid hb ho) (Un.setRow w _ _ _ ⟨id, es, hid, rfl⟩) (fun b hbl => .inl ?_) (fun b arr hb => .inl hb)
  obtain ⟨i, e, hi, rfl⟩ := hbl
  simp only [updO] at hi
  split at hi
  · rename_i e1; subst e1; exact ⟨i, es, hid, rfl⟩
  · exact ⟨i, e, hi, rfl⟩
/-- An object is left behind. -/
theorem GR.del (h : GR M C G w) (id : Nat) : GR M C ⟨G.next, updO G.obj id none⟩ w := by
  have hsub : ∀ i e, updO G.obj id none i = some e → G.obj i = some e := by
    intro i e hi
    simp only [updO] at hi
    split at hi
    · cases hi
    · exact hi
  exact ⟨h.n, fun i e hi => h.ob i e (hsub i e hi), fun i i' e e' h1 h2 hne => h.inj i i' e e' (hsub _ _ h1) (hsub _ _ h2) hne, fun b arr hb => ⟨(h.im b arr hb).1, fun i e hi => (h.im b arr hb).2 i e (hsub i e hi)⟩⟩
theorem live_del {id : Nat} {b : Nat} (hb : live C ⟨G.next, updO G.obj id none⟩ b) : live C G b := by
  obtain ⟨i, e, hi, rfl⟩ := hb
  simp only [updO] at hi
  split at hi
  · cases hi
  · exact ⟨i, e, hi, rfl⟩
theorem St.del (h : St M bx N C0 w0 L C β fr G a w) (id : Nat) : St M bx N C0 w0 L C β fr ⟨G.next, updO G.obj id none⟩ a w :=
  h.step (Cx.le.refl C) (h.gr.del id) (Un.refl w _) (fun b hb => .inl (live_del hb)) (fun b arr hb => .inl hb)
/-- A read only row in a new block. -/
def immC (C : Cx) (b : Nat) (arr : Array Value) : Cx := ⟨C.n, C.io, fun i => if i = b then some arr else C.im i⟩
theorem St.imm (h : St M bx N C0 w0 L C β fr G a w) {arr : Array Value} {ty : TypeId} :
    St M bx N C0 w0 L (immC C w.heap.size arr) β fr G a (w.alloc (.cells arr ty)) ∧ C.le (immC C w.heap.size arr) := by
  have hle : C.le (immC C w.heap.size arr) := ⟨Nat.le_refl _, fun _ _ => rfl, fun b x hb => by
    simp only [immC]
    rw [if_neg]; exact hb
    rintro rfl
    have := h.gr.imlt hb
    omega⟩
  refine ⟨h.step hle ⟨h.gr.n, fun id es hid => ?_, h.gr.inj, fun b x hb => ?_⟩ (Un.alloc w _ _ _) (fun b hb => .inl hb) (fun b x hb => ?_), hle⟩
  · obtain ⟨h1, cur, t, h2, h3⟩ := h.gr.ob id es hid
    exact ⟨h1, cur, t, heap_old w _ h2, h3.mono hle⟩
  · simp only [immC] at hb
    split at hb
    · rename_i e
      injection hb with hb
      subst hb e
      refine ⟨⟨ty, (0, 0), heap_new w _⟩, fun id es hid e => ?_⟩
      have e' : (C.io id).blk = w.heap.size := e
      have := h.gr.lt ⟨id, es, hid, rfl⟩
      omega
    · obtain ⟨⟨t, f, h2⟩, h3⟩ := h.gr.im b x hb
      exact ⟨⟨t, f, heap_old w _ h2⟩, h3⟩
  · simp only [immC] at hb
    split at hb
    · rename_i e; right; right; omega
    · exact .inl hb
theorem St.drew (h : St M bx N C0 w0 L C β fr G a w) : St M bx N C0 w0 L C β fr G a { w with drawn := w.drawn + 1 } :=
  h.step (Cx.le.refl C) ⟨h.gr.n, h.gr.ob, h.gr.inj, h.gr.im⟩ (Un.drew w _) (fun b hb => .inl hb) (fun b arr hb => .inl hb)

/-- A struct variable of the frame is made. -/
theorem St.box_new (h : St M bx N C0 w0 L C β fr G a w) {d : Nat} (hd : d < N) (hdb : d ∈ bx) (hu : fr d = .undef) {cs : List AVal} {cur : Array Value} {ty : TypeId} (hs : cur.size = cs.length) (hc : CsR M C cs cur 0) :
    St M bx N C0 w0 L C (fun t => if t = d then w.heap.size else β t) (upd fr d (.pbox cs)) G (a.put (some d) (.pointer (some ⟨w.heap.size, 0, none⟩))) (w.alloc (.cells cur ty)) := by
  have h1 := h.step (G' := G) (w' := w.alloc (.cells cur ty)) (Cx.le.refl C) ⟨h.gr.n, fun id es hid => ?_, h.gr.inj, fun b arr hb => ?_⟩ (Un.alloc w _ _ _) (fun b hb => .inl hb) (fun b arr hb => .inl hb)
  · have hfr : ∀ t, t ≠ d → upd fr d (.pbox cs) t = fr t := fun t ht => by simp only [upd]; rw [if_neg ht]
    have hfd : upd fr d (.pbox cs) d = .pbox cs := by simp [upd]
    have hpn : ∀ t c, fr t ≠ .pptr d c := fun t c e => (h.pp t d c e).2 hu
    have hlt : ∀ t cs', fr t = .pbox cs' → β t < w.heap.size := fun t cs' ht => by
      obtain ⟨_, _, ⟨cur, ty, h3, _⟩, _⟩ := h.box t cs' ht
      exact (Array.getElem?_eq_some_iff.1 h3).1
    refine ⟨h1.le, h1.un, h1.gr, h1.mine, by simpa [Act.put] using h1.size, h1.defers, fun t => ?_, fun t cs' ht => ?_, fun t t' cs1 cs2 ht ht' hne => ?_, fun t e c ht => ?_, h1.ims⟩
    · by_cases ht : t = d
      · subst ht
        rw [hfd]
        have hg : (a.put (some t) (.pointer (some ⟨w.heap.size, 0, none⟩))).tmps.getD t undef = .pointer (some ⟨w.heap.size, 0, none⟩) := by simp [Act.put, h.size, hd]
        rw [hg]
        simp [SlotR]
      · rw [hfr t ht]
        have hg : (a.put (some d) (.pointer (some ⟨w.heap.size, 0, none⟩))).tmps.getD t undef = a.tmps.getD t undef := by simp [Act.put, Ne.symm ht]
        rw [hg]
        have := h1.slot t
        unfold SlotR at this ⊢
        split <;> simp_all
        rename_i e c hh
        intro e'
        subst e'
        exact absurd hh (hpn t c)
    · by_cases ht2 : t = d
      · subst ht2
        rw [hfd] at ht
        injection ht with ht
        subst ht
        refine ⟨hdb, ?_, ⟨cur, ty, ?_, hs, hc⟩, ?_, ?_⟩
        · simp only [if_true]; exact h.un.size
        · simp only [if_true]; exact heap_new w _
        · simp only [if_true]
          intro hl
          have := h.gr.lt hl
          omega
        · simp only [if_true]
          cases hi : C.im w.heap.size with
          | none => rfl
          | some arr => have := h.gr.imlt hi; omega
      · rw [hfr t ht2] at ht
        simp only [if_neg ht2]
        exact h1.box t cs' ht
    · by_cases e1 : t = d <;> by_cases e2 : t' = d
      · exact absurd (e1.trans e2.symm) hne
      · subst e1
        rw [hfr t' e2] at ht'
        simp only [if_true, if_neg e2]
        have := hlt t' _ ht'
        omega
      · subst e2
        rw [hfr t e1] at ht
        simp only [if_true, if_neg e1]
        have := hlt t _ ht
        omega
      · rw [hfr t e1] at ht
        rw [hfr t' e2] at ht'
        simp only [if_neg e1, if_neg e2]
        exact h1.apart t t' _ _ ht ht' hne
    · by_cases ht2 : t = d
      · subst ht2; rw [hfd] at ht; cases ht
      · rw [hfr t ht2] at ht
        refine ⟨(h1.pp t e c ht).1, ?_⟩
        by_cases e2 : e = d
        · subst e2; rw [hfd]; simp
        · rw [hfr e e2]; exact (h1.pp t e c ht).2
  · obtain ⟨h2, cur', t, h3, h4⟩ := h.gr.ob id es hid
    exact ⟨h2, cur', t, heap_old w _ h3, h4⟩
  · obtain ⟨⟨t, f, h3⟩, h4⟩ := h.gr.im b arr hb
    exact ⟨⟨t, f, heap_old w _ h3⟩, h4⟩
/-- A struct variable of the frame is written. -/
theorem St.box_set (h : St M bx N C0 w0 L C β fr G a w) {d : Nat} {cs cs' : List AVal} {cur' : Array Value} (hd : fr d = .pbox cs) (hs : cur'.size = cs'.length) (hc : CsR M C cs' cur' 0) :
    St M bx N C0 w0 L C β (upd fr d (.pbox cs')) G a (w.setRow (β d) cur') := by
  obtain ⟨h1, h2, ⟨cur, ty, h3, h4, h5⟩, h6, h7⟩ := h.box d cs hd
  have hfr : ∀ t, t ≠ d → upd fr d (.pbox cs') t = fr t := fun t ht => by simp only [upd]; rw [if_neg ht]
  have hfd : upd fr d (.pbox cs') d = .pbox cs' := by simp [upd]
  have hun : Un w0 (w.setRow (β d) cur') L := h.un.trans (Un.setRow w (β d) cur' (fun b => b = β d) rfl) (fun b hb => by right; rw [hb]; exact h2)
  refine ⟨h.le, hun, ⟨h.gr.n, fun id es hid => ?_, h.gr.inj, fun b arr hb => ?_⟩, h.mine, h.size, h.defers, fun t => ?_, fun t cs1 ht => ?_, fun t t' cs1 cs2 ht ht' hne => ?_, fun t e c ht => ?_, h.ims⟩
  · obtain ⟨i1, c1, t1, i2, i3⟩ := h.gr.ob id es hid
    exact ⟨i1, c1, t1, by rw [setRow_other w _ _ _ (fun e => h6 ⟨id, es, hid, e⟩)]; exact i2, i3⟩
  · obtain ⟨⟨t1, f1, i1⟩, i2⟩ := h.gr.im b arr hb
    exact ⟨⟨t1, f1, by rw [setRow_other w _ _ _ (fun e => by rw [e] at hb; rw [h7] at hb; cases hb)]; exact i1⟩, i2⟩
  · have := h.slot t
    by_cases ht : t = d
    · subst ht
      rw [hd] at this
      rw [hfd]; exact this
    · rw [hfr t ht]; exact this
  · by_cases ht2 : t = d
    · subst ht2
      rw [hfd] at ht
      injection ht with ht
      subst ht
      exact ⟨h1, h2, ⟨cur', ty, setRow_heap w _ cur cur' ty (0, 0) h3, hs, hc⟩, h6, h7⟩
    · rw [hfr t ht2] at ht
      obtain ⟨i1, i2, ⟨c3, t3, i3, i4, i5⟩, i6, i7⟩ := h.box t cs1 ht
      exact ⟨i1, i2, ⟨c3, t3, by rw [setRow_other w _ _ _ (h.apart t d _ _ ht hd ht2)]; exact i3, i4, i5⟩, i6, i7⟩
  · by_cases e1 : t = d
    · subst e1
      rw [hfr t' (Ne.symm hne)] at ht'
      exact h.apart t t' _ _ hd ht' hne
    · rw [hfr t e1] at ht
      by_cases e2 : t' = d
      · subst e2; exact h.apart t t' _ _ ht hd hne
      · rw [hfr t' e2] at ht'; exact h.apart t t' _ _ ht ht' hne
  · by_cases ht2 : t = d
    · subst ht2; rw [hfd] at ht; cases ht
    · rw [hfr t ht2] at ht
      refine ⟨(h.pp t e c ht).1, ?_⟩
      by_cases e2 : e = d
      · subst e2; rw [hfd]; simp
      · rw [hfr e e2]; exact (h.pp t e c ht).2
end
end Go.Ai
set_option linter.unusedVariables false
set_option linter.unusedSimpArgs false
namespace Go.Ai
variable {M : SM}

section
variable {P : Program} {w : World}
theorem app_fit (t ty e : TypeId) (z : Nat) (ht : P.underlying t = some (.slice e)) (hz : (P.info? e).map (·.size) = some z) (g n cap : Nat) (cur : Array Value) (et : TypeId) (hg : w.heap[g]? = some (.cells cur et (0, 0)))
    (A : Option Addr) (m c : Nat) (news : List Value) (hl : news.length = m * z) (hf : (Builtin.firstCells z m (.slice A m c)).run P w = .ok news.toArray w) (h1 : ∀ u ∈ news, u.oneCell' = true) (hroom : n + m ≤ cap) (hfit : n * z + news.length ≤ cur.size) :
    (Builtin.append_ #[t, t] ty #[.slice (some ⟨g, 0, none⟩) n cap, .slice A m c]).run P w = .ok (.slice (some ⟨g, 0, none⟩) (n + m) cap) (w.setRow g (cur.toList.take (n * z) ++ news ++ cur.toList.drop (n * z + news.length)).toArray) := by
  obtain ⟨i, hi, rfl⟩ := Option.map_eq_some_iff.1 hz
  have hst := run_storeCells_at P g (n * i.size) et news 0 cur w hg (by simpa using hfit) h1
  simp only [Nat.add_zero] at hst
  simp [Builtin.append_, run_underlying ht, sizeOf, typeInfo, hi, Builtin.lenOf, hroom, hf, Addr.add_lit, hst]
theorem app_none (t ty e : TypeId) (z : Nat) (ht : P.underlying t = some (.slice e)) (hz : (P.info? e).map (·.size) = some z) (B A : Option Addr) (n cap c : Nat) (hn : n ≤ cap) :
    (Builtin.append_ #[t, t] ty #[.slice B n cap, .slice A 0 c]).run P w = .ok (.slice B n cap) w := by
  obtain ⟨i, hi, rfl⟩ := Option.map_eq_some_iff.1 hz
  cases A <;> cases B <;> simp [Builtin.append_, run_underlying ht, sizeOf, typeInfo, hi, Builtin.lenOf, Builtin.firstCells, hn, loadCells, loadCellsFrom, storeCells]
theorem app_grow_run (t ty e : TypeId) (z bytes : Nat) (zv : Value) (ht : P.underlying t = some (.slice e)) (hz : (P.info? e).map (fun i => (i.size, i.bytes, i.zero)) = some (z, bytes, some zv))
    (B A : Option Addr) (n cap m c : Nat) (olds news : List Value) (hlo : olds.length = n * z) (hl : news.length = m * z)
    (hfo : ∀ k, (Builtin.firstCells z n (.slice B n cap)).run P { w with drawn := k } = .ok olds.toArray { w with drawn := k }) (hf : ∀ k, (Builtin.firstCells z m (.slice A m c)).run P { w with drawn := k } = .ok news.toArray { w with drawn := k })
    (hg : cap < n + m) (hb : (n + m) * bytes ≤ 140737488355328) (h63 : n + m ≤ maxLen) :
    (Builtin.append_ #[t, t] ty #[.slice B n cap, .slice A m c]).run P w = .ok (.slice (some ⟨w.heap.size, 0, none⟩) (n + m) (grownCap w (n + m) cap e))
      ({ w with drawn := w.drawn + 1 }.alloc (.cells (olds.toArray ++ news.toArray ++ Builtin.zeroCells zv.cells (grownCap w (n + m) cap e - (n + m))) e)) := by
  obtain ⟨i, hi, hh⟩ := Option.map_eq_some_iff.1 hz
  simp only [Prod.mk.injEq] at hh
  obtain ⟨rfl, rfl, hzv⟩ := hh
  have hm : n + m ≤ 9223372036854775807 := by simp only [maxLen] at h63; omega
  have hn : ¬ (n + m ≤ cap) := by omega
  have h63' : ¬ (9223372036854775807 < ((n : Int) + (m : Int))) := by omega
  have hfit := growslice_fits (bytes := i.bytes) hg hb
  have h48' : ¬ (281474976710656 < Builtin.nextslicecap (n + m) cap * i.bytes) := by omega
  have hf1 : (Builtin.firstCells i.size m (.slice A m c)).run P w.drew = .ok news.toArray w.drew := hf (w.drawn + 1)
  have hf2 : (Builtin.firstCells i.size n (.slice B n cap)).run P w.drew = .ok olds.toArray w.drew := hfo (w.drawn + 1)
  show _ = Result.ok _ (w.drew.alloc _)
  simp [Builtin.append_, run_underlying ht, sizeOf, typeInfo, zeroValue, hi, hzv, Builtin.lenOf, hn, h63', h48', Question.forced, hf1, hf2, newRow, grownCap]
  congr 2
  apply Array.ext'
  simp
end

section
variable {bx : List Nat} {N : Nat} {C0 : Cx} {w0 : World} {L : Nat → Prop} {C C' : Cx} {β : Nat → Nat} {fr : Fr} {G G' : AG} {a : Act} {w w' : World}

/-- Elements one behind the other. -/
structure ElsR (M : SM) (C : Cx) (z : Nat) (es : Obj') (L : List Value) : Prop where
  len : L.length = es.length * z
  el : ∀ i e, es[i]? = some e → e.length = z ∧ CsR M C e L.toArray (i * z)
theorem ElsR.one {C : Cx} {z : Nat} {es : Obj'} {L : List Value} (h : ElsR M C z es L) : ∀ u ∈ L, u.oneCell' = true := by
  intro u hu
  obtain ⟨j, hj, rfl⟩ := List.getElem_of_mem hu
  have hz : 0 < z := by
    rcases Nat.eq_zero_or_pos z with h0 | h0
    · subst h0; rw [h.len] at hj; simp at hj
    · exact h0
  have hlt : j / z < es.length := by rw [h.len] at hj; exact Nat.div_lt_of_lt_mul (by rw [Nat.mul_comm]; exact hj)
  obtain ⟨h1, h2⟩ := h.el (j / z) _ (List.getElem?_eq_getElem hlt)
  have hm : j % z < es[j / z].length := by rw [h1]; exact Nat.mod_lt _ hz
  have hidx : j / z * z + j % z = j := by rw [Nat.mul_comm]; exact Nat.div_add_mod j z
  refine (h2.at_ (j % z) _ _ (List.getElem?_eq_getElem hm) ?_).one
  rw [hidx]
  simp [List.getElem?_eq_getElem hj]
theorem ElsR.mono {C C' : Cx} (hle : C.le C') {z : Nat} {es : Obj'} {L : List Value} (h : ElsR M C z es L) : ElsR M C' z es L := ⟨h.len, fun i e he => ⟨(h.el i e he).1, (h.el i e he).2.mono hle⟩⟩
theorem run_first {P : Program} {w : World} {z m c b p : Nat} {news : List Value} (hl : news.length = m * z) (hc : ∀ j y, news[j]? = some y → w.cell? ⟨b, p + j, none⟩ = some y) :
    ∀ k, (Builtin.firstCells z m (.slice (some ⟨b, p, none⟩) m c)).run P { w with drawn := k } = .ok news.toArray { w with drawn := k } := by
  intro k
  simp only [Builtin.firstCells]
  rw [← hl]
  refine run_loadCells_list (P := P) _ _ news (fun j y hy => ?_)
  rw [Addr.add_lit]
  exact hc j y hy
theorem run_first0 {P : Program} {w : World} {z c : Nat} {A : Option Addr} : ∀ k, (Builtin.firstCells z 0 (.slice A 0 c)).run P { w with drawn := k } = .ok ([] : List Value).toArray { w with drawn := k } := by
  intro k
  cases A <;> simp [Builtin.firstCells, loadCells, loadCellsFrom]
theorem run_firstN {P : Program} {w : World} {z m c b p : Nat} {news : List Value} (hl : news.length = m * z) (hc : ∀ j y, news[j]? = some y → w.cell? ⟨b, p + j, none⟩ = some y) :
    ∀ n, n ≤ m → ∀ k, (Builtin.firstCells z n (.slice (some ⟨b, p, none⟩) m c)).run P { w with drawn := k } = .ok (news.take (n * z)).toArray { w with drawn := k } := by
  intro n hn k
  simp only [Builtin.firstCells]
  have hlen : (news.take (n * z)).length = n * z := by
    rw [List.length_take, hl, Nat.min_eq_left]; exact Nat.mul_le_mul_right _ hn
  have := run_loadCells_list (P := P) { w with drawn := k } ⟨b, p, none⟩ (news.take (n * z)) (fun j y hy => by
    rw [Addr.add_lit]
    rw [List.getElem?_take] at hy
    split at hy
    · exact hc j y hy
    · cases hy)
  rwa [hlen] at this
theorem run_firstN0 {P : Program} {w : World} {z c : Nat} {A : Option Addr} : ∀ n, n ≤ 0 → ∀ k, (Builtin.firstCells z n (.slice A 0 c)).run P { w with drawn := k } = .ok (([] : List Value).take (n * z)).toArray { w with drawn := k } := by
  intro n hn k
  obtain rfl : n = 0 := by omega
  cases A <;> simp [Builtin.firstCells, loadCells, loadCellsFrom]
/-- The cells of so many elements, from a place of a block on. -/
theorem els_of {C : Cx} {z b p : Nat} {es : Obj'} {cur : Array Value} {et : TypeId} {f : Nat × Nat} {w : World} (hb : w.heap[b]? = some (.cells cur et f)) (hfit : p + es.length * z ≤ cur.size) (hel : ∀ i e, es[i]? = some e → e.length = z ∧ CsR M C e cur (p + i * z)) :
    ∃ news : List Value, ElsR M C z es news ∧ ∀ j y, news[j]? = some y → w.cell? ⟨b, p + j, none⟩ = some y := by
  have hget : ∀ j y, ((cur.toList.drop p).take (es.length * z))[j]? = some y → cur[p + j]? = some y := by
    intro j y hy
    simp only [List.getElem?_take] at hy
    split at hy
    · rw [List.getElem?_drop] at hy; rw [← Array.getElem?_toList]; exact hy
    · cases hy
  refine ⟨(cur.toList.drop p).take (es.length * z), ⟨?_, fun i e he => ⟨(hel i e he).1, ?_, fun c x y hx hy => ?_⟩⟩, fun j y hy => ?_⟩
  · simp only [List.length_take, List.length_drop, Array.length_toList]; omega
  · have h1 := (hel i e he).1
    have hi : i < es.length := (List.getElem?_eq_some_iff.1 he).1
    have : (i + 1) * z ≤ es.length * z := Nat.mul_le_mul_right _ hi
    rw [Nat.add_mul] at this
    simp only [List.size_toArray, List.length_take, List.length_drop, Array.length_toList]
    omega
  · refine (hel i e he).2.at_ c x y hx ?_
    rw [Nat.add_assoc]
    exact hget _ y (by simpa using hy)
  · rw [cell_of hb]; exact hget j y hy
/-- What an append or a copy takes from. -/
theorem St.src (h : St M bx N C0 w0 L C β fr G a w) {y : AVal} {Y : Value} (hy : VR M C y Y) {ns : Obj'} {z : Nat} (hz : 0 < z)
    (hns : srcOf G.obj y = some ns) (hw : ∀ e ∈ ns, e.length = z) :
    ∃ A c news, Y = .slice A ns.length c ∧ ns.length ≤ c ∧ ElsR M C z ns news ∧ ∀ n, n ≤ ns.length → ∀ k, (Builtin.firstCells z n (.slice A ns.length c)).run M.P { w with drawn := k } = .ok (news.take (n * z)).toArray { w with drawn := k } := by
  cases y <;> simp only [srcOf] at hns <;> try (cases hns; done)
  case nils =>
    injection hns with hns
    subst hns
    obtain ⟨A, rfl⟩ := vr_nils hy
    exact ⟨A, 0, [], rfl, Nat.le_refl _, ⟨by simp, by simp⟩, run_firstN0⟩
  case slice id off len =>
    simp only [Option.bind_eq_some_iff] at hns
    obtain ⟨es, hes, hns⟩ := hns
    split at hns
    · rename_i hle
      injection hns with hns
      subst hns
      obtain ⟨cap, A, rfl, hid, hlc, hA⟩ := vr_slice hy
      have hlen : ((es.drop off).take len).length = len := by simp; omega
      rw [hlen]
      by_cases h0 : len = 0
      · subst h0
        refine ⟨some A, cap, [], rfl, Nat.zero_le _, ⟨by simp, by simp⟩, run_firstN0⟩
      · obtain ⟨hlt, cur, ty, hb, ho⟩ := h.gr.ob id es hes
        have hoff : off < es.length := by omega
        have hzz : (C.io id).esz = z := by
          have h1 := (ho.el off _ (List.getElem?_eq_getElem hoff)).1
          rw [← h1]
          apply hw
          rw [List.mem_iff_getElem?]
          exact ⟨0, by rw [List.getElem?_take, if_pos (by omega), List.getElem?_drop]; simp [List.getElem?_eq_getElem hoff]⟩
        have hfit : off * z + len * z ≤ cur.size := by
          rw [ho.size, hzz, ← Nat.add_mul]
          exact Nat.mul_le_mul_right _ (Nat.le_trans hle ho.fit)
        obtain ⟨news, hn1, hn2⟩ := els_of (M := M) (C := C) (z := z) (p := off * z) (es := (es.drop off).take len) hb (by rw [hlen]; exact hfit) (fun i e he => by
          have he2 : es[off + i]? = some e := by
            simp only [List.getElem?_take] at he
            split at he
            · rwa [List.getElem?_drop] at he
            · cases he
          have := ho.el (off + i) e he2
          rw [hzz, Nat.add_mul] at this
          exact this)
        rcases hA with ⟨rfl, hcap⟩ | hcap
        · have hl := hn1.len
          rw [hlen] at hl
          rw [hzz]
          exact ⟨_, cap, news, rfl, hlc, hn1, run_firstN hl hn2⟩
        · omega
    · cases hns
  case list es =>
    injection hns with hns
    subst hns
    obtain ⟨z', b, p, cap, A, rfl, hle, hA, hli⟩ := vr_list hy
    by_cases h0 : es = []
    · subst h0
      exact ⟨A, cap, [], rfl, hle, ⟨by simp, by simp⟩, run_firstN0⟩
    · have hzz : z' = z := by
        obtain ⟨e0, he0⟩ := List.exists_mem_of_ne_nil es h0
        rw [← hli.hz e0 he0, hw e0 he0]
      subst hzz
      have hpos : 0 < es.length := List.length_pos_iff.2 h0
      obtain ⟨y, hy, _⟩ := hli.hex 0 es[0] 0 (List.getElem?_eq_getElem hpos) hz
      simp only [Cx.at, Option.bind_eq_some_iff] at hy
      obtain ⟨arr, harr, _⟩ := hy
      obtain ⟨⟨ty, f, hb⟩, _⟩ := h.gr.im b arr harr
      have hat : ∀ i c, i < es.length → c < z' → ∃ y, arr[p + (i * z' + c)]? = some y := fun i c hi hc => by
        obtain ⟨y, hy, _⟩ := hli.hex i es[i] c (List.getElem?_eq_getElem hi) hc
        simp only [Cx.at, harr, Option.bind_some] at hy
        exact ⟨y, hy⟩
      have hfit : p + es.length * z' ≤ arr.size := by
        obtain ⟨y, hy⟩ := hat (es.length - 1) (z' - 1) (by omega) (by omega)
        have h1 := (Array.getElem?_eq_some_iff.1 hy).1
        have h2 : es.length * z' = (es.length - 1) * z' + z' := by
          have : es.length = (es.length - 1) + 1 := by omega
          conv => lhs; rw [this, Nat.add_mul, Nat.one_mul]
        omega
      obtain ⟨news, hn1, hn2⟩ := els_of (M := M) (C := C) (z := z') (p := p) (es := es) hb hfit (fun i e he => by
        have hel := hli.hz e (List.mem_of_getElem? he)
        have hi := (List.getElem?_eq_some_iff.1 he).1
        refine ⟨hel, ?_, fun c x y hx hy => ?_⟩
        · have : (i + 1) * z' ≤ es.length * z' := Nat.mul_le_mul_right _ hi
          rw [Nat.add_mul] at this
          omega
        · have hc : c < z' := by rw [← hel]; exact (List.getElem?_eq_some_iff.1 hx).1
          obtain ⟨y', hy', h1⟩ := hli.hex i e c he hc
          have hy2 : C.at b (p + (i * z' + c)) = some y := by simp only [Cx.at, harr, Option.bind_some]; rw [← Nat.add_assoc]; exact hy
          rw [hy2] at hy'; injection hy' with hy'; subst hy'
          exact ⟨hli.hv i e c x y he hx hy2, h1⟩)
      rw [hA h0]
      exact ⟨_, cap, news, rfl, hle, hn1, run_firstN hn1.len hn2⟩
end
end Go.Ai
