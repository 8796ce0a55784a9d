/- Operations that answer a value and leave the world alone: the theorem. -/
import Derived.Test.YtffliemhdjcflaaAiS5
set_option linter.unusedVariables false
set_option linter.unusedSimpArgs false
namespace Go.Ai
variable {M : SM}
section
variable {bx : List Nat} {N : Nat} {C0 : Cx} {w0 : World} {L : Nat → Prop} {C : Cx} {β : Nat → Nat} {fr : Fr} {G G' : AG} {a : Act} {w : World}
variable {call : CallF} {mt : Nat → Nat → Option Nat} {v : AVal}

theorem vr_int {C : Cx} {k : IntKind} {n : Int} {V : Value} (h : VR M C (.int k n) V) : V = .int k n := by cases h; rfl
theorem vr_bool {C : Cx} {b : Bool} {V : Value} (h : VR M C (.bool b) V) : V = .bool b := by cases h; rfl
theorem map_size {P : Program} {t : TypeId} {n : Nat} (h : (P.info? t).map (·.size) = some n) : ∃ i, P.info? t = some i ∧ i.size = n := Option.map_eq_some_iff.1 h
theorem run_binOp_int (P : Program) (w : World) (op : BinOp) (t : TypeId) (k : IntKind) (m n : Int) (v : AVal) (h : intBin op k m n = some v) : ∃ V, (binOp op t (.int k m) (.int k n)).run P w = .ok V w ∧ ∀ C, VR M C v V := by
  cases op <;> simp only [intBin] at h <;> try (cases h; done)
  case quo => split at h <;> first | (cases h; done) | (rename_i h0; injection h with h; subst h; exact ⟨_, by simp [binOp, Op.intDiv, h0], fun _ => .int ..⟩)
  case rem => split at h <;> first | (cases h; done) | (rename_i h0; injection h with h; subst h; exact ⟨_, by simp [binOp, Op.intDiv, h0], fun _ => .int ..⟩)
  case xor => injection h with h; subst h; exact ⟨_, by simp [binOp, Op.intBits], fun _ => .int ..⟩
  case eql => injection h with h; subst h; exact ⟨.bool (decide (m = n)), by simp [binOp, Op.intCmp]; rfl, fun _ => .bool ..⟩
  case neq => injection h with h; subst h; exact ⟨.bool (!decide (m = n)), by simp [binOp, Op.intCmp, bne]; rfl, fun _ => .bool ..⟩
  case lss => injection h with h; subst h; exact ⟨_, by simp [binOp, Op.intCmp], fun _ => .bool ..⟩
  case leq => injection h with h; subst h; exact ⟨_, by simp [binOp, Op.intCmp], fun _ => .bool ..⟩
  case gtr => injection h with h; subst h; exact ⟨_, by simp [binOp, Op.intCmp], fun _ => .bool ..⟩
  case geq => injection h with h; subst h; exact ⟨_, by simp [binOp, Op.intCmp], fun _ => .bool ..⟩
  all_goals injection h with h; subst h; exact ⟨_, by simp [binOp, Op.intArith], fun _ => .int ..⟩

theorem partsOf_get : ∀ (ps : List (Nat × Nat × Opd)) (vs : List (Nat × List AVal)), partsOf fr ps = some vs → vs.length = ps.length ∧ ∀ (i : Nat) o n x, ps[i]? = some (o, n, x) → ∃ cs, vs[i]? = some (o, cs) ∧ gcells fr x = some cs ∧ cs.length = n := by
  intro ps
  induction ps with
  | nil => intro vs h; injection h with h; subst h; exact ⟨rfl, by simp⟩
  | cons p ps ih =>
    obtain ⟨o, n, x⟩ := p
    intro vs h
    simp only [partsOf, Option.bind_eq_some_iff] at h
    obtain ⟨cs, hcs, h⟩ := h
    split at h
    · rename_i hn
      simp only [Option.bind_eq_some_iff] at h
      obtain ⟨t, ht, h⟩ := h
      injection h with h
      subst h
      obtain ⟨h1, h2⟩ := ih t ht
      refine ⟨by simp [h1], fun i o' n' x' hi => ?_⟩
      cases i with
      | zero => simp at hi; obtain ⟨rfl, rfl, rfl⟩ := hi; exact ⟨cs, rfl, hcs, hn⟩
      | succ i => exact h2 i o' n' x' hi
    · cases h
theorem run_fill (h : St M bx N C0 w0 L C β fr G a w) {fields : Array Field} {place : Nat → Option (Nat × Nat)} (hpl : ∀ i f n, fields[i]? = some f → (M.P.info? f.type).map (·.size) = some n → place i = some (f.offset, n)) :
    ∀ (ps : List (Nat × Nat × Opd)) (qs : List (Nat × Operand)) (vs : List (Nat × List AVal)) (z : List AVal) (zv : Array Value), partsOf fr ps = some vs → ps.length = qs.length → (∀ (k : Nat) p q, ps[k]? = some p → qs[k]? = some q → PartM M fields p q) → ArR M C z zv →
      (∀ (p : Nat × List AVal), p ∈ vs → p.1 + p.2.length ≤ z.length) → ∃ arr, Instr.fill place zv (qs.map fun (i, x) => (i, a.eval x)) = some arr ∧ ArR M C (fillB z vs) arr := by
  intro ps
  induction ps with
  | nil =>
    intro qs vs z zv hp hl _ hz _
    injection hp with hp
    subst hp
    cases qs with
    | nil => exact ⟨zv, rfl, hz⟩
    | cons q qs => simp at hl
  | cons p ps ih =>
    intro qs vs z zv hp hl hm hz hf
    cases qs with
    | nil => simp at hl
    | cons q qs =>
      obtain ⟨o, n, x⟩ := p
      obtain ⟨i, X⟩ := q
      simp only [partsOf, Option.bind_eq_some_iff] at hp
      obtain ⟨cs, hcs, hp⟩ := hp
      split at hp
      · rename_i hn
        simp only [Option.bind_eq_some_iff] at hp
        obtain ⟨t, ht, hp⟩ := hp
        injection hp with hp
        subst hp
        have h0 := hm 0 (o, n, x) (i, X) rfl rfl
        cases h0 with
        | mk _ _ _ _ _ f hx hfi ho hs =>
          obtain ⟨hc1, hc2⟩ := h.gcells hx hcs
          have hfit := hf (o, cs) (by simp)
          have hsp := hz.splice (off := o) hc1 hc2 hfit
          obtain ⟨arr, ha1, ha2⟩ := ih qs t (splice z o cs) _ ht (by simpa using hl) (fun k p q hp hq => hm (k + 1) p q (by simpa using hp) (by simpa using hq)) hsp (fun p hp => by rw [splice_length]; exact hf p (by simp [hp]))
          refine ⟨arr, ?_, ha2⟩
          simp only [List.map_cons, Instr.fill, hpl i f n hfi hs, ho]
          rw [if_neg]
          · exact ha1
          · simp only [ne_eq, Bool.or_eq_true, decide_eq_true_eq, not_or, Decidable.not_not]
            have := hz.len
            constructor
            · rw [← hc2]; exact hn
            · simp at hfit; omega
      · cases hp
theorem run_places {P : Program} (w : World) (fields : Array Field) (hi : ∀ f ∈ fields, ∃ n, (P.info? f.type).map (·.size) = some n) :
    ∃ places : Array (Nat × Nat), (fields.mapM fun (f : Field) => (do pure (f.offset, ← sizeOf f.type) : Sem (Nat × Nat))).run P w = .ok places w ∧ ∀ (i : Nat) f n, fields[i]? = some f → (P.info? f.type).map (·.size) = some n → places[i]? = some (f.offset, n) := by
  have key : ∀ (l : List Field), (∀ f ∈ l, ∃ n, (P.info? f.type).map (·.size) = some n) → ∃ ps : List (Nat × Nat), (l.mapM fun (f : Field) => (do pure (f.offset, ← sizeOf f.type) : Sem (Nat × Nat))).run P w = .ok ps w ∧ ∀ (i : Nat) f n, l[i]? = some f → (P.info? f.type).map (·.size) = some n → ps[i]? = some (f.offset, n) := by
    intro l
    induction l with
    | nil => intro _; exact ⟨[], rfl, by simp⟩
    | cons f l ih =>
      intro hl
      obtain ⟨n, hn⟩ := hl f (by simp)
      obtain ⟨ps, h1, h2⟩ := ih (fun g hg => hl g (by simp [hg]))
      refine ⟨(f.offset, n) :: ps, ?_, fun i g m hg hm => ?_⟩
      · simp only [List.mapM_cons, Sem.run_bind, run_sizeOf hn, Result.andThen_ok, Sem.run_pure, h1]
      · cases i with
        | zero => simp at hg; subst hg; rw [hn] at hm; injection hm with hm; subst hm; rfl
        | succ i => exact h2 i g m (by simpa using hg) hm
  obtain ⟨ps, h1, h2⟩ := key fields.toList (fun f hf => hi f (by simpa using hf))
  refine ⟨ps.toArray, ?_, fun i f n hf hn => by simpa using h2 i f n (by simpa using hf) hn⟩
  have : (fields.mapM fun (f : Field) => (do pure (f.offset, ← sizeOf f.type) : Sem (Nat × Nat))) = List.toArray <$> fields.toList.mapM fun (f : Field) => (do pure (f.offset, ← sizeOf f.type) : Sem (Nat × Nat)) := by
    rw [← Array.mapM_eq_mapM_toList]
  rw [this]
  simp only [Sem.run_map, h1, Result.andThen_ok]

theorem bound_ok {X : Value} {v : AVal} {l d : Nat} (hx : VR M C v X) (hb : boundOf (some v) d = some l) {y : Nat} {code : BoundsCode} {P : Program} (hl : l ≤ y) : (Instr.sliceBound X y code).run P w = .ok l w := by
  cases v <;> simp only [boundOf] at hb <;> try (cases hb; done)
  rename_i kk n
  split at hb
  · injection hb with hb
    cases hx
    have h1 : 0 ≤ n ∧ n ≤ (y : Int) := by omega
    simp [Instr.sliceBound, asIntOf, h1, hb]
  · cases hb

theorem run_fnil {P : Program} {t : TypeId} {ps rs : Array TypeId} {vv : Bool} (hu : P.underlying t = some (.func ps rs vv)) (d : Nat) (fn : Fn) (x y : Array Value) (w : World) : (Op.equalIn (d + 1) t (.func fn x y) .nilFunc).run P w = .ok false w := by
  simp [Op.equalIn, run_underlying hu]
theorem run_nilf {P : Program} {t : TypeId} {ps rs : Array TypeId} {vv : Bool} (hu : P.underlying t = some (.func ps rs vv)) (d : Nat) (fn : Fn) (x y : Array Value) (w : World) : (Op.equalIn (d + 1) t .nilFunc (.func fn x y)).run P w = .ok false w := by
  simp [Op.equalIn, run_underlying hu]
theorem run_nilnil {P : Program} {t : TypeId} {ps rs : Array TypeId} {vv : Bool} (hu : P.underlying t = some (.func ps rs vv)) (d : Nat) (w : World) : (Op.equalIn (d + 1) t .nilFunc .nilFunc).run P w = .ok true w := by
  simp [Op.equalIn, run_underlying hu]
theorem eqGuard_ff (op : BinOp) (t : TypeId) (x y : Operand) (u v : Value) (w : World) (P : Program) (hu : (∃ f a b, u = .func f a b) ∨ u = .nilFunc) : (eqGuard op t x y u v).run P w = .ok () w := by
  rcases hu with ⟨f, a, b, rfl⟩ | rfl <;> cases op <;> rfl
variable {dst : Option Tmp} {ty : TypeId} {pos : String} {after : Array Edge} {guard : Option (Nat × Bool)}
theorem p_mv (h : St M bx N C0 w0 L C β fr G a w) {x : Opd} {X : Operand} (hx : OpR M x X) (he : evOp call mt fr G (.mv x) = some (v, G')) :
    ∃ V, (execOp a.eval ⟨dst, .move X, ty, pos, after, guard⟩).run M.P w = .ok (.value V) w ∧ EvR M bx C β fr v V ∧ G' = G := by
    simp only [evOp] at he
    injection he with he; injection he with h1 h2
    subst h1
    exact ⟨_, by simp [execOp], h.ev hx, h2.symm⟩
theorem p_as (h : St M bx N C0 w0 L C β fr G a w) {x : Opd} {X : Operand} (hx : OpR M x X) (he : evOp call mt fr G (.mv x) = some (v, G')) :
    ∃ V, (execOp a.eval ⟨dst, .assign X, ty, pos, after, guard⟩).run M.P w = .ok (.value V) w ∧ EvR M bx C β fr v V ∧ G' = G := by
    simp only [evOp] at he
    injection he with he; injection he with h1 h2
    subst h1
    exact ⟨_, by simp [execOp], h.ev hx, h2.symm⟩
theorem p_pick (h : St M bx N C0 w0 L C β fr G a w) {c x y : Opd} {C' X Y : Operand} (hc : OpR M c C') (hx : OpR M x X) (hy : OpR M y Y) (he : evOp call mt fr G (.pick c x y) = some (v, G')) :
    ∃ V, (execOp a.eval ⟨dst, .pick C' X Y, ty, pos, after, guard⟩).run M.P w = .ok (.value V) w ∧ EvR M bx C β fr v V ∧ G' = G := by
    have h1 := h.ev hc; have h2 := h.ev hx; have h3 := h.ev hy
    simp only [evOp] at he
    generalize c.ev fr = cv at h1 he
    generalize hxv : x.ev fr = xv at h2 he
    generalize hyv : y.ev fr = yv at h3 he
    cases cv with
    | bool t =>
      have ht := vr_bool (VR_of_EvR h1 (by simp) (by simp) (by simp))
      have key : some (if t then xv else yv, G) = some (v, G') → ∃ V, (execOp a.eval ⟨dst, .pick C' X Y, ty, pos, after, guard⟩).run M.P w = .ok (.value V) w ∧ EvR M bx C β fr v V ∧ G' = G := by
        intro he
        injection he with he; injection he with h4 h5
        subst h4
        refine ⟨if t then a.eval X else a.eval Y, by cases t <;> simp [execOp, ht, asBool], ?_, h5.symm⟩
        cases t <;> simpa
      cases xv <;> cases yv <;> try exact key he
      rename_i b1 b2
      exact key (by rw [← he]; cases t <;> rfl)
    | _ => cases xv <;> cases yv <;> cases he
theorem p_build (h : St M bx N C0 w0 L C β fr G a w) {z : List AVal} {ps : List (Nat × Nat × Opd)} {t : TypeId} {parts : Array (Nat × Operand)} {fields : Array Field} {zv : Array Value} (hz : (M.P.info? t).bind (·.zero) = some (.agg zv)) (hzr : ∀ C, ArR M C z zv) (ht : M.P.underlying t = some (.struct fields)) (hi : ∀ f ∈ fields, ∃ n, (M.P.info? f.type).map (·.size) = some n) (hfit : ∀ p ∈ ps, p.1 + p.2.1 ≤ z.length) (hl : ps.length = parts.size) (hp : ∀ (k : Nat) p q, ps[k]? = some p → parts[k]? = some q → PartM M fields p q) (he : evOp call mt fr G (.build z ps) = some (v, G')) :
    ∃ V, (execOp a.eval ⟨dst, .build t parts, ty, pos, after, guard⟩).run M.P w = .ok (.value V) w ∧ EvR M bx C β fr v V ∧ G' = G := by
    simp only [evOp, Option.bind_eq_some_iff] at he
    obtain ⟨vs, hvs, he⟩ := he
    injection he with he; injection he with h1 h2
    subst h1
    obtain ⟨places, hpl1, hpl2⟩ := run_places w fields hi
    obtain ⟨hv1, hv2⟩ := partsOf_get ps vs hvs
    obtain ⟨arr, ha1, ha2⟩ := run_fill h (place := (places[·]?)) (fun i f n hf hn => hpl2 i f n hf hn) ps parts.toList vs z zv hvs (by simpa using hl) (fun k p q hp' hq => hp k p q hp' (by simpa using hq)) (hzr C) (by
      intro p hpm
      obtain ⟨i, hi1, rfl⟩ := List.getElem_of_mem hpm
      have hi2 : i < ps.length := by rw [← hv1]; exact hi1
      obtain ⟨cs, h3, _, h5⟩ := hv2 i _ _ _ (List.getElem?_eq_getElem hi2)
      rw [List.getElem?_eq_getElem hi1] at h3
      injection h3 with h3
      rw [h3]
      have := hfit ps[i] (List.getElem_mem hi2)
      show ps[i].1 + cs.length ≤ z.length
      have h6 : cs.length = ps[i].2.1 := h5
      omega)
    refine ⟨.agg arr, ?_, ArR.vr ha2, h2.symm⟩
    obtain ⟨i0, hi0, hz0⟩ := Option.bind_eq_some_iff.1 hz
    simp only [execOp, Instr.build, Sem.run_bind, zeroValue, typeInfo, run_program, hi0, hz0, Result.andThen_ok, Sem.run_pure, run_underlying ht, hpl1, Array.toList_map, Value.cells]
    rw [ha1]
    simp
theorem p_load (h : St M bx N C0 w0 L C β fr G a w) {k : Option Nat} {x : Opd} {t : TypeId} {X : Operand} (hx : OpR M x X) (ht : LdT M.P k t) (he : evOp call mt fr G (.load k x) = some (v, G')) :
    ∃ V, (execOp a.eval ⟨dst, .load t X, ty, pos, after, guard⟩).run M.P w = .ok (.value V) w ∧ EvR M bx C β fr v V ∧ G' = G := by
    obtain ⟨V, h1, h2, h3⟩ := run_load_any h ht hx he
    exact ⟨V, by simp [execOp, h1], evR_of_VR h2, h3⟩
theorem p_nilck (h : St M bx N C0 w0 L C β fr G a w) {x : Opd} {X : Operand} (hx : OpR M x X) (he : evOp call mt fr G (.nilck x) = some (v, G')) :
    ∃ V, (execOp a.eval ⟨dst, .nilCheck X, ty, pos, after, guard⟩).run M.P w = .ok (.value V) w ∧ EvR M bx C β fr v V ∧ G' = G := by
    have h1 := h.ev hx
    simp only [evOp] at he
    generalize x.ev fr = xv at h1 he
    cases xv <;> simp only at he <;> try (cases he; done)
    all_goals
      injection he with he; injection he with h4 h5
      subst h4
      refine ⟨a.eval X, ?_, h1, h5.symm⟩
    · have hv : VR M C (.ptr _ _ _) (a.eval X) := h1
      cases hA : a.eval X <;> rw [hA] at hv <;> cases hv
      simp [execOp, hA]
    · simp [execOp, h1.1]
    · have hv : VR M C (.iptr _ _ _) (a.eval X) := h1
      cases hA : a.eval X <;> rw [hA] at hv <;> cases hv
      simp [execOp, hA]
    · have hv : VR M C (.func _ _) (a.eval X) := h1
      cases hA : a.eval X <;> rw [hA] at hv <;> cases hv
      simp [execOp, hA]
    · have hv : VR M C (.iface _ _) (a.eval X) := h1
      cases hA : a.eval X <;> rw [hA] at hv <;> cases hv
      simp [execOp, hA]
theorem p_bin (h : St M bx N C0 w0 L C β fr G a w) {op : BinOp} {x y : Opd} {t t' : TypeId} {X Y : Operand} (hx : OpR M x X) (hy : OpR M y Y) (he : evOp call mt fr G (.bin op x y) = some (v, G')) :
    ∃ V, (execOp a.eval ⟨dst, .binOp op t X Y t', ty, pos, after, guard⟩).run M.P w = .ok (.value V) w ∧ EvR M bx C β fr v V ∧ G' = G := by
    simp only [evOp, Option.bind_eq_some_iff] at he
    obtain ⟨xv, hxv, yv, hyv, v', hv', he⟩ := he
    injection he with he; injection he with h4 h5
    subst h4
    have h1 := h.gev hx hxv; have h2 := h.gev hy hyv
    cases xv <;> cases yv <;> simp only [binv] at hv' <;> try (cases hv'; done)
    rename_i k m k' n
    split at hv'
    · rename_i hk
      subst hk
      have e1 := vr_int h1
      have e2 := vr_int h2
      obtain ⟨V, h6, h7⟩ := run_binOp_int M.P w op t k m n v' hv'
      exact ⟨V, by simp [execOp, e1, e2, eqGuard_at_int, h6], evR_of_VR (h7 C), h5.symm⟩
    · cases hv'
theorem p_eq (h : St M bx N C0 w0 L C β fr G a w) {k : EqK} {x y : Opd} {t t' : TypeId} {X Y : Operand} (hx : OpR M x X) (hy : OpR M y Y) (ht : EqM M.P t k) (he : evOp call mt fr G (.eqk k false x y) = some (v, G')) :
    ∃ V, (execOp a.eval ⟨dst, .binOp .eql t X Y t', ty, pos, after, guard⟩).run M.P w = .ok (.value V) w ∧ EvR M bx C β fr v V ∧ G' = G := by
    simp only [evOp, Option.bind_eq_some_iff] at he
    obtain ⟨xv, hxv, yv, hyv, v', hv', he⟩ := he
    injection he with he; injection he with h4 h5
    subst h4
    have h1 := h.gev hx hxv; have h2 := h.gev hy hyv
    obtain ⟨r, hr, rfl⟩ := Option.map_eq_some_iff.1 hv'
    refine ⟨.bool (r), ?_, VR.bool _, h5.symm⟩
    cases ht with
    | b hu =>
      cases xv <;> cases yv <;> simp only [eqv] at hr <;> try (cases hr; done)
      injection hr with hr
      have e1 := vr_bool h1; have e2 := vr_bool h2
      simp [execOp, e1, e2, eqGuard_at_bool, binOp, Op.equal, Op.maxDepth, run_equalIn_bool' w _ t _ _ hu, hr]
    | f ps rs vv hu =>
      have key : ∀ (U W : Value), a.eval X = U → a.eval Y = W → ((∃ f a b, U = .func f a b) ∨ U = .nilFunc) → (Op.equalIn 10000 t U W).run M.P w = .ok r w → (binOp .eql t U W = do pure (.bool (← Op.equal t U W))) → (execOp a.eval ⟨dst, .binOp .eql t X Y t', ty, pos, after, guard⟩).run M.P w = .ok (.value (.bool (r))) w := by
        intro U W hU hW hg he hb
        simp only [execOp, hU, hW, Sem.run_bind, eqGuard_ff .eql t X Y U W w M.P hg, Result.andThen_ok, hb, Op.equal, Op.maxDepth, he, Sem.run_pure]
      cases xv <;> cases yv <;> simp only [eqv] at hr <;> try (cases hr; done)
      · injection hr with hr
        subst hr
        obtain ⟨k1, args, hA, _⟩ := vr_func h1
        exact key _ _ hA (vr_nilf h2) (.inl ⟨_, _, _, rfl⟩) (run_fnil hu _ _ _ _ _) rfl
      · injection hr with hr
        subst hr
        obtain ⟨k1, args, hA, _⟩ := vr_func h2
        exact key _ _ (vr_nilf h1) hA (.inr rfl) (run_nilf hu _ _ _ _ _) rfl
      · injection hr with hr
        subst hr
        exact key _ _ (vr_nilf h1) (vr_nilf h2) (.inr rfl) (run_nilnil hu _ _) rfl
    | st ks hu hst hg hfl =>
      cases xv <;> cases yv <;> simp only [eqv] at hr <;> try (cases hr; done)
      obtain ⟨A1, hA, hA2⟩ := ArR.of_vr h1
      obtain ⟨B1, hB, hB2⟩ := ArR.of_vr h2
      have hq := flat_eq (P := M.P) ks (M.P.fieldsOf t).toList 0 9998 _ _ A1 B1 hfl (fun i x y hx hy => (hA2.at_ i x y hx (by simpa using hy)).v) (fun i x y hx hy => (hB2.at_ i x y hx (by simpa using hy)).v)
        (by rw [Nat.zero_add]; exact hA2.len) (by rw [Nat.zero_add]; exact hB2.len) r hr w
      simp only [execOp, hA, hB, Sem.run_bind, run_eqGuard_agg w _ t X Y _ _ hg, Result.andThen_ok, run_eql_struct, run_equalIn_struct w _ t _ _ hu hst, hq, Sem.run_pure]
theorem p_ne (h : St M bx N C0 w0 L C β fr G a w) {k : EqK} {x y : Opd} {t t' : TypeId} {X Y : Operand} (hx : OpR M x X) (hy : OpR M y Y) (ht : EqM M.P t k) (he : evOp call mt fr G (.eqk k true x y) = some (v, G')) :
    ∃ V, (execOp a.eval ⟨dst, .binOp .neq t X Y t', ty, pos, after, guard⟩).run M.P w = .ok (.value V) w ∧ EvR M bx C β fr v V ∧ G' = G := by
    simp only [evOp, Option.bind_eq_some_iff] at he
    obtain ⟨xv, hxv, yv, hyv, v', hv', he⟩ := he
    injection he with he; injection he with h4 h5
    subst h4
    have h1 := h.gev hx hxv; have h2 := h.gev hy hyv
    obtain ⟨r, hr, rfl⟩ := Option.map_eq_some_iff.1 hv'
    refine ⟨.bool (!r), ?_, VR.bool _, h5.symm⟩
    cases ht with
    | b hu =>
      cases xv <;> cases yv <;> simp only [eqv] at hr <;> try (cases hr; done)
      injection hr with hr
      have e1 := vr_bool h1; have e2 := vr_bool h2
      simp [execOp, e1, e2, eqGuard_at_bool, binOp, Op.equal, Op.maxDepth, run_equalIn_bool' w _ t _ _ hu, hr]
    | f ps rs vv hu =>
      have key : ∀ (U W : Value), a.eval X = U → a.eval Y = W → ((∃ f a b, U = .func f a b) ∨ U = .nilFunc) → (Op.equalIn 10000 t U W).run M.P w = .ok r w → (binOp .neq t U W = do pure (.bool (!(← Op.equal t U W)))) → (execOp a.eval ⟨dst, .binOp .neq t X Y t', ty, pos, after, guard⟩).run M.P w = .ok (.value (.bool (!r))) w := by
        intro U W hU hW hg he hb
        simp only [execOp, hU, hW, Sem.run_bind, eqGuard_ff .neq t X Y U W w M.P hg, Result.andThen_ok, hb, Op.equal, Op.maxDepth, he, Sem.run_pure]
      cases xv <;> cases yv <;> simp only [eqv] at hr <;> try (cases hr; done)
      · injection hr with hr
        subst hr
        obtain ⟨k1, args, hA, _⟩ := vr_func h1
        exact key _ _ hA (vr_nilf h2) (.inl ⟨_, _, _, rfl⟩) (run_fnil hu _ _ _ _ _) rfl
      · injection hr with hr
        subst hr
        obtain ⟨k1, args, hA, _⟩ := vr_func h2
        exact key _ _ (vr_nilf h1) hA (.inr rfl) (run_nilf hu _ _ _ _ _) rfl
      · injection hr with hr
        subst hr
        exact key _ _ (vr_nilf h1) (vr_nilf h2) (.inr rfl) (run_nilnil hu _ _) rfl
    | st ks hu hst hg hfl =>
      cases xv <;> cases yv <;> simp only [eqv] at hr <;> try (cases hr; done)
      obtain ⟨A1, hA, hA2⟩ := ArR.of_vr h1
      obtain ⟨B1, hB, hB2⟩ := ArR.of_vr h2
      have hq := flat_eq (P := M.P) ks (M.P.fieldsOf t).toList 0 9998 _ _ A1 B1 hfl (fun i x y hx hy => (hA2.at_ i x y hx (by simpa using hy)).v) (fun i x y hx hy => (hB2.at_ i x y hx (by simpa using hy)).v)
        (by rw [Nat.zero_add]; exact hA2.len) (by rw [Nat.zero_add]; exact hB2.len) r hr w
      simp only [execOp, hA, hB, Sem.run_bind, run_eqGuard_agg w _ t X Y _ _ hg, Result.andThen_ok, run_neq_struct, run_equalIn_struct w _ t _ _ hu hst, hq, Sem.run_pure]
theorem p_nt (h : St M bx N C0 w0 L C β fr G a w) {x : Opd} {t : TypeId} {X : Operand} (hx : OpR M x X) (he : evOp call mt fr G (.nt x) = some (v, G')) :
    ∃ V, (execOp a.eval ⟨dst, .unOp .not t X, ty, pos, after, guard⟩).run M.P w = .ok (.value V) w ∧ EvR M bx C β fr v V ∧ G' = G := by
    have h1 := h.ev hx
    simp only [evOp] at he
    generalize x.ev fr = xv at h1 he
    cases xv <;> simp only at he <;> try (cases he; done)
    injection he with he; injection he with h4 h5
    subst h4
    exact ⟨_, by simp [execOp, vr_bool h1, Op.unary], VR.bool _, h5.symm⟩
theorem p_neg (h : St M bx N C0 w0 L C β fr G a w) {x : Opd} {t : TypeId} {X : Operand} (hx : OpR M x X) (he : evOp call mt fr G (.neg x) = some (v, G')) :
    ∃ V, (execOp a.eval ⟨dst, .unOp .neg t X, ty, pos, after, guard⟩).run M.P w = .ok (.value V) w ∧ EvR M bx C β fr v V ∧ G' = G := by
    have h1 := h.ev hx
    simp only [evOp] at he
    generalize x.ev fr = xv at h1 he
    cases xv <;> simp only at he <;> try (cases he; done)
    injection he with he; injection he with h4 h5
    subst h4
    exact ⟨_, by simp [execOp, vr_int h1, Op.unary, Op.intArith], VR.int _ _, h5.symm⟩
theorem p_fld (h : St M bx N C0 w0 L C β fr G a w) {off : Nat} {x : Opd} {s : TypeId} {X : Operand} {i : Nat} {fields : Array Field} {f : Field} (hx : OpR M x X) (hs : M.P.underlying s = some (.struct fields)) (hf : fields[i]? = some f) (ho : f.offset = off) (hn : ∃ n, (M.P.info? f.type).map (·.size) = some n ∧ n ≠ 0) (he : evOp call mt fr G (.fld off x) = some (v, G')) :
    ∃ V, (execOp a.eval ⟨dst, .fieldAddr s X i, ty, pos, after, guard⟩).run M.P w = .ok (.value V) w ∧ EvR M bx C β fr v V ∧ G' = G := by
    obtain ⟨n, hn, hn0⟩ := hn
    have h1 := h.ev hx
    simp only [evOp] at he
    have key : ∀ (b p : Nat), a.eval X = .pointer (some ⟨b, p, none⟩) → (execOp a.eval ⟨dst, .fieldAddr s X i, ty, pos, after, guard⟩).run M.P w = .ok (.value (.pointer (some ⟨b, p + off, none⟩))) w := by
      intro b p hA
      simp only [execOp, hA, Instr.fieldAt, Sem.run_bind, run_underlying hs, Result.andThen_ok, hf, Instr.sureAddr, Sem.run_pure, fieldPlace, run_sizeOf hn]
      simp [hn0, Addr.add_lit, ho]
    generalize x.ev fr = xv at h1 he
    cases xv <;> simp only at he <;> try (cases he; done)
    case ptr id j c =>
      injection he with he; injection he with h4 h5
      subst h4
      obtain ⟨hid, hA⟩ := vr_ptr (show VR M C (.ptr id j c) (a.eval X) from h1)
      refine ⟨_, key _ _ hA, ?_, h5.symm⟩
      rw [Nat.add_assoc]
      exact VR.ptr _ _ _ hid
    case pptr d c =>
      injection he with he; injection he with h4 h5
      subst h4
      exact ⟨_, key _ _ h1.1, ⟨rfl, h1.2⟩, h5.symm⟩
    case iptr es j c =>
      injection he with he; injection he with h4 h5
      subst h4
      obtain ⟨z, b, p, hA, hli⟩ := vr_iptr (show VR M C (.iptr es j c) (a.eval X) from h1)
      refine ⟨_, key _ _ hA, ?_, h5.symm⟩
      rw [Nat.add_assoc, Nat.add_assoc]
      exact hli.iptr j (c + off)
theorem p_idx (h : St M bx N C0 w0 L C β fr G a w) {z : Nat} {x i : Opd} {t e : TypeId} {X I : Operand} (hx : OpR M x X) (hi : OpR M i I) (ht : M.P.underlying t = some (.slice e)) (hz : (M.P.info? e).map (·.size) = some z) (he : evOp call mt fr G (.idx z x i) = some (v, G')) :
    ∃ V, (execOp a.eval ⟨dst, .indexAddr t X I, ty, pos, after, guard⟩).run M.P w = .ok (.value V) w ∧ EvR M bx C β fr v V ∧ G' = G := by
    have h1 := h.ev hx; have h2 := h.ev hi
    simp only [evOp] at he
    generalize x.ev fr = xv at h1 he
    generalize i.ev fr = iv at h2 he
    have key : ∀ (b p len cap : Nat) (k : IntKind) (n : Int), a.eval X = .slice (some ⟨b, p, none⟩) len cap → a.eval I = .int k n → 0 ≤ n → n < len → (execOp a.eval ⟨dst, .indexAddr t X I, ty, pos, after, guard⟩).run M.P w = .ok (.value (.pointer (some ⟨b, p + n.toNat * z, none⟩))) w := by
      intro b p len cap k n hA hB h0 h3
      simp only [execOp, hA, hB, Instr.indexAt, asIntOf, Sem.run_bind, run_underlying ht, Result.andThen_ok, Sem.run_pure]
      simp [h0, h3, run_sizeOf hz, Addr.add_lit]
    cases xv <;> cases iv <;> simp only at he <;> try (cases he; done)
    case slice.int id off len k n =>
      split at he
      · rename_i hc
        simp only [Option.bind_eq_some_iff] at he
        obtain ⟨es, hes, e1, he1, he⟩ := he
        split at he
        · rename_i hz1
          injection he with he; injection he with h4 h5
          subst h4
          have hb := vr_int (show VR M C (.int k n) (a.eval I) from h2)
          obtain ⟨_, cur, ty1, hblk, ho⟩ := h.gr.ob id es hes
          have hzz : (C.io id).esz = z := by rw [← (ho.el _ _ he1).1, hz1]
          obtain ⟨cap, A, hA, hid, hl, ha⟩ := vr_slice (show VR M C (.slice id off len) (a.eval X) from h1)
          rcases ha with ⟨rfl, hcap⟩ | hcap
          · refine ⟨_, key _ _ _ _ _ _ hA hb hc.1 hc.2, ?_, h5.symm⟩
            have := VR.ptr (M := M) (C := C) id (off + n.toNat) 0 hid
            rw [hzz, Nat.add_zero, Nat.add_mul] at this
            rw [hzz]
            exact this
          · omega
        · cases he
      · cases he
    case list.int es k n =>
      split at he
      · rename_i hc
        injection he with he; injection he with h4 h5
        subst h4
        have hb := vr_int (show VR M C (.int k n) (a.eval I) from h2)
        obtain ⟨z', b, p, cap, A, hA, hl, hA', hli⟩ := vr_list (show VR M C (.list es) (a.eval X) from h1)
        have hne : es ≠ [] := by rintro rfl; simp at hc; omega
        have hzz : z' = z := by
          obtain ⟨e0, he0⟩ := List.exists_mem_of_ne_nil es hne
          rw [← hli.hz e0 he0, hc.2.2 e0 he0]
        subst hzz
        rw [hA' hne] at hA
        refine ⟨_, key _ _ _ _ _ _ hA hb hc.1 hc.2.1, ?_, h5.symm⟩
        have := hli.iptr n.toNat 0
        exact evR_of_VR (by simpa using this)
      · cases he
theorem p_ext (h : St M bx N C0 w0 L C β fr G a w) {x : Opd} {X : Operand} {i : Nat} (hx : OpR M x X) (he : evOp call mt fr G (.ext x i) = some (v, G')) :
    ∃ V, (execOp a.eval ⟨dst, .extract X i, ty, pos, after, guard⟩).run M.P w = .ok (.value V) w ∧ EvR M bx C β fr v V ∧ G' = G := by
    have h1 := h.ev hx
    simp only [evOp] at he
    generalize x.ev fr = xv at h1 he
    cases xv <;> simp only at he <;> try (cases he; done)
    rename_i vs
    simp only [Option.bind_eq_some_iff] at he
    obtain ⟨v', hv', he⟩ := he
    injection he with he; injection he with h4 h5
    subst h4
    have hv : VR M C (.tuple vs) (a.eval X) := h1
    cases hA : a.eval X <;> rw [hA] at hv <;> cases hv
    rename_i arr hl hh
    have hlt : i < arr.size := by rw [← hl]; exact (List.getElem?_eq_some_iff.1 hv').1
    exact ⟨arr[i], by simp [execOp, hA, Instr.extract, Array.getElem?_eq_getElem hlt], evR_of_VR (hh i _ _ hv' (Array.getElem?_eq_getElem hlt)), h5.symm⟩
theorem p_fieldv (h : St M bx N C0 w0 L C β fr G a w) {off : Nat} {k : Option Nat} {x : Opd} {s : TypeId} {X : Operand} {i : Nat} {fields : Array Field} {f : Field} (hx : OpR M x X) (hs : M.P.underlying s = some (.struct fields)) (hf : fields[i]? = some f) (ho : f.offset = off) (hl : LdT M.P k f.type) (he : evOp call mt fr G (.fieldv off k x) = some (v, G')) :
    ∃ V, (execOp a.eval ⟨dst, .field s X i, ty, pos, after, guard⟩).run M.P w = .ok (.value V) w ∧ EvR M bx C β fr v V ∧ G' = G := by
    have h1 := h.ev hx
    simp only [evOp] at he
    generalize x.ev fr = xv at h1 he
    cases xv <;> simp only at he <;> try (cases he; done)
    rename_i cs
    simp only [Option.bind_eq_some_iff] at he
    obtain ⟨v', hv', he⟩ := he
    injection he with he; injection he with h4 h5
    subst h4
    obtain ⟨arr, hA, har⟩ := ArR.of_vr (VR_of_EvR h1 (by simp) (by simp) (by simp))
    have hpart : ∃ V, (part f.type arr off).run M.P w = .ok V w ∧ VR M C v' V := by
      cases k with
      | none =>
        obtain ⟨d, hd, ha⟩ := hl
        have hlt : off < arr.size := by rw [← har.len]; exact (List.getElem?_eq_some_iff.1 hv').1
        refine ⟨arr[off], ?_, (har.at_ off _ _ hv' (Array.getElem?_eq_getElem hlt)).v⟩
        simp only [part, Sem.run_bind, run_isAgg hd, Result.andThen_ok, ha]
        simp [Array.getElem?_eq_getElem hlt]
      | some n =>
        obtain ⟨⟨d, hd, ha⟩, hs'⟩ := hl
        simp only [ldv] at hv'
        split at hv'
        · rename_i hle
          injection hv' with hv'
          subst hv'
          refine ⟨.agg (arr.extract off (off + n)), ?_, ArR.vr ⟨?_, fun i x y hx hy => ?_⟩⟩
          · simp only [part, Sem.run_bind, run_isAgg hd, Result.andThen_ok, ha, if_true, run_sizeOf hs', Sem.run_pure]
          · have := har.len
            simp; omega
          · simp only [List.getElem?_take] at hx
            split at hx
            · rw [List.getElem?_drop] at hx
              rw [Array.getElem?_extract] at hy
              split at hy
              · exact har.at_ _ x y hx hy
              · cases hy
            · cases hx
        · cases hv'
    obtain ⟨V, h6, h7⟩ := hpart
    refine ⟨V, ?_, evR_of_VR h7, h5.symm⟩
    simp only [execOp, hA, Instr.field, Sem.run_bind, run_underlying hs, Result.andThen_ok, hf, asAgg, Sem.run_pure, ho, h6]
theorem p_len (h : St M bx N C0 w0 L C β fr G a w) {x : Opd} {X : Operand} {t : TypeId} (hx : OpR M x X) (ht : ∃ e, M.P.underlying t = some (.slice e)) (he : evOp call mt fr G (.len x) = some (v, G')) :
    ∃ V, (execOp a.eval ⟨dst, .call { callee := .builtin .len, args := #[X], argTypes := #[t] }, ty, pos, after, guard⟩).run M.P w = .ok (.value V) w ∧ EvR M bx C β fr v V ∧ G' = G := by
    have h1 := h.ev hx
    simp only [evOp] at he
    generalize x.ev fr = xv at h1 he
    have key : ∀ (V : Value) (n : Nat), a.eval X = V → (∀ ty, (Builtin.len_ #[t] ty #[V]).run M.P w = .ok (goInt n) w) → (execOp a.eval ⟨dst, .call { callee := .builtin .len, args := #[X], argTypes := #[t] }, ty, pos, after, guard⟩).run M.P w = .ok (.value (.int .i64 n)) w := by
      intro V n hA hr
      simp only [execOp, resolve, Sem.run_bind, Sem.run_pure, Result.andThen_ok, invoke, builtin, List.map_toArray, List.map_cons, List.map_nil, hA, hr]
      rfl
    cases xv <;> simp only at he <;> try (cases he; done)
    all_goals
      injection he with he; injection he with h4 h5
      subst h4
    · obtain ⟨A, hA⟩ := vr_nils (show VR M C .nils (a.eval X) from h1)
      obtain ⟨e, ht⟩ := ht
      exact ⟨_, key _ 0 hA (fun ty => by simp [Builtin.len_, run_underlying ht]), VR.int _ _, h5.symm⟩
    · obtain ⟨cap, A, hA, _⟩ := vr_slice (show VR M C (.slice _ _ _) (a.eval X) from h1)
      obtain ⟨e, ht⟩ := ht
      exact ⟨_, key _ _ hA (fun ty => by simp [Builtin.len_, run_underlying ht]), VR.int _ _, h5.symm⟩
    · obtain ⟨z', b, p, cap, A, hA, _⟩ := vr_list (show VR M C (.list _) (a.eval X) from h1)
      obtain ⟨e, ht⟩ := ht
      exact ⟨_, key _ _ hA (fun ty => by simp [Builtin.len_, run_underlying ht]), VR.int _ _, h5.symm⟩
theorem p_mkf (h : St M bx N C0 w0 L C β fr G a w) {f : Nat} {k : FuncId} {caps : List Opd} {Caps : Array Operand} (hf : M.fm f = some k) (hl : caps.length = Caps.size) (hc : ∀ (i : Nat) x X, caps[i]? = some x → Caps[i]? = some X → OpR M x X) (he : evOp call mt fr G (.mkf f caps) = some (v, G')) :
    ∃ V, (execOp a.eval ⟨dst, .makeFunc (.func k) #[] Caps, ty, pos, after, guard⟩).run M.P w = .ok (.value V) w ∧ EvR M bx C β fr v V ∧ G' = G := by
    simp only [evOp, Option.bind_eq_some_iff] at he
    obtain ⟨cs, hcs, he⟩ := he
    injection he with he; injection he with h4 h5
    subst h4
    obtain ⟨h1, h2⟩ := h.gevs hcs hl hc
    exact ⟨.func (.func k) #[] (Caps.map a.eval), by simp [execOp, Instr.makeFunc], VR.func f k cs _ hf h1 h2, h5.symm⟩
theorem p_mki (h : St M bx N C0 w0 L C β fr G a w) {tag : Nat} {t : TypeId} {x : Opd} {X : Operand} (hx : OpR M x X) (ht : M.tm tag = some t) (hc : M.P.concrete t = true) (he : evOp call mt fr G (.mki tag x) = some (v, G')) :
    ∃ V, (execOp a.eval ⟨dst, .makeInterface t X, ty, pos, after, guard⟩).run M.P w = .ok (.value V) w ∧ EvR M bx C β fr v V ∧ G' = G := by
    simp only [evOp, Option.bind_eq_some_iff] at he
    obtain ⟨xv, hxv, he⟩ := he
    injection he with he; injection he with h4 h5
    subst h4
    exact ⟨.iface t (a.eval X), by simp [execOp, run_makeInterface w t _ hc], VR.iface tag t _ _ ht (h.gev hx hxv), h5.symm⟩
theorem p_sl (h : St M bx N C0 w0 L C β fr G a w) {z : Nat} {x : Opd} {lo hi : Option Opd} {t e : TypeId} {X : Operand} {Lo Hi : Option Operand} (hx : OpR M x X) (hlo : OptR M lo Lo) (hhi : OptR M hi Hi) (ht : M.P.underlying t = some (.slice e)) (hz : (M.P.info? e).map (·.size) = some z) (he : evOp call mt fr G (.sl z x lo hi) = some (v, G')) :
    ∃ V, (execOp a.eval ⟨dst, .slice t X Lo Hi none, ty, pos, after, guard⟩).run M.P w = .ok (.value V) w ∧ EvR M bx C β fr v V ∧ G' = G := by
    have h1 := h.ev hx
    simp only [evOp] at he
    generalize x.ev fr = xv at h1 he
    have hbd : ∀ (q : Option Opd) (Q : Option Operand) (d l y : Nat) (code : BoundsCode), OptR M q Q → boundOf (q.map (·.ev fr)) d = some l → l ≤ y → (match Q with | some X => (Instr.sliceBound (a.eval X) y code).run M.P w = .ok l w | none => l = d) := by
      intro q Q d l y code hq hb hy
      cases hq with
      | none => simp [boundOf] at hb; exact hb.symm
      | some x X hx =>
        have h3 := h.ev hx
        simp only [Option.map_some] at hb
        refine bound_ok (v := x.ev fr) (VR_of_EvR h3 ?_ ?_ ?_) hb hy <;> · intros; intro e; rw [e] at hb; simp [boundOf] at hb
    have key : ∀ (A : Option Addr) (len cap l hh : Nat), a.eval X = .slice A len cap → boundOf (lo.map (·.ev fr)) 0 = some l → boundOf (hi.map (·.ev fr)) len = some hh → l ≤ hh → hh ≤ len → len ≤ cap →
        (execOp a.eval ⟨dst, .slice t X Lo Hi none, ty, pos, after, guard⟩).run M.P w = .ok (.value (.slice (if cap = l then A else A.map (·.add (l * z))) (hh - l) (cap - l))) w := by
      intro A len cap l hh hA hl hh' h3 h4 h5
      have b1 := hbd lo Lo 0 l hh .sliceB hlo hl h3
      have b2 := hbd hi Hi len hh cap .sliceAcap hhi hh' (by omega)
      simp only [execOp, Instr.sliceAt, Sem.run_bind, run_underlying ht, Result.andThen_ok, Instr.slice, hA, Instr.sliceBounds]
      cases Lo <;> cases Hi <;> simp only [Option.map_none, Option.map_some, Option.isSome_none, Bool.false_eq_true, if_false, Sem.run_bind, Sem.run_pure, Result.andThen_ok, if_true] at b1 b2 ⊢
      · subst b1 b2; simp [run_sizeOf hz]
      · subst b1; simp [b2, run_sizeOf hz]
      · subst b2; simp [b1, run_sizeOf hz]
      · simp [b1, b2, run_sizeOf hz]
    cases xv <;> simp only at he <;> try (cases he; done)
    case list es =>
      simp only [Option.bind_eq_some_iff] at he
      obtain ⟨l, hl, hh, hhh, he⟩ := he
      split at he
      · rename_i hc
        injection he with he; injection he with h4 h5
        subst h4
        obtain ⟨z', b, p, cap, A, hA, hle, hA', hli⟩ := vr_list (show VR M C (.list es) (a.eval X) from h1)
        refine ⟨_, key _ _ _ _ _ hA hl hhh hc.1 hc.2.1 hle, ?_, h5.symm⟩
        have hlen : ((es.drop l).take (hh - l)).length = hh - l := by have := hc.2.1; simp; omega
        have := (hli.sub l (hh - l)).list (cap := cap - l) (A := if cap = l then A else A.map (·.add (l * z))) (by have := hc.2.1; rw [hlen]; omega) (by
          intro hne
          have hne2 : es ≠ [] := by rintro rfl; simp at hne
          have hzz : z' = z := by
            obtain ⟨e0, he0⟩ := List.exists_mem_of_ne_nil es hne2
            rw [← hli.hz e0 he0, hc.2.2 e0 he0]
          have hlt : l < hh := by
            rcases Nat.lt_or_ge l hh with hlt | hge
            · exact hlt
            · exfalso; apply hne; apply List.eq_nil_of_length_eq_zero; rw [hlen]; omega
          have := hc.2.1
          rw [if_neg (by omega), hA' hne2]
          simp [Addr.add_lit, hzz])
        rw [hlen] at this
        exact this
      · cases he
    case slice id off len =>
      simp only [Option.bind_eq_some_iff] at he
      obtain ⟨l, hl, hh, hhh, he⟩ := he
      split at he
      · rename_i hc
        simp only [Option.bind_eq_some_iff] at he
        obtain ⟨es, hes, he⟩ := he
        split at he
        · rename_i hz1
          injection he with he; injection he with h4 h5
          subst h4
          obtain ⟨_, cur, ty1, hblk, ho⟩ := h.gr.ob id es hes
          have hzz : (C.io id).esz = z := by
            obtain ⟨e0, he0⟩ := List.exists_mem_of_ne_nil es hz1.1
            obtain ⟨i0, hi0, rfl⟩ := List.getElem_of_mem he0
            rw [← (ho.el i0 _ (List.getElem?_eq_getElem hi0)).1, hz1.2 _ he0]
          obtain ⟨cap, A, hA, hid, hle, ha⟩ := vr_slice (show VR M C (.slice id off len) (a.eval X) from h1)
          refine ⟨_, key _ _ _ _ _ hA hl hhh hc.1 hc.2 hle, ?_, h5.symm⟩
          by_cases hcl : cap = l
          · rw [if_pos hcl]
            exact VR.slice id (off + l) (hh - l) (cap - l) A hid (by omega) (.inr (by omega))
          · rw [if_neg hcl]
            simp only [Option.map_some]
            refine VR.slice id (off + l) (hh - l) (cap - l) _ hid (by omega) ?_
            rcases ha with ⟨rfl, hcap⟩ | hcap
            · left
              refine ⟨?_, by omega⟩
              rw [Addr.add_lit, hzz, Nat.add_mul]
            · right; omega
        · cases he
      · cases he

theorem p_conv (h : St M bx N C0 w0 L C β fr G a w) {k : IntKind} {x : Opd} {s d : TypeId} {X : Operand} (hx : OpR M x X) (hs : ∃ k', M.P.underlying s = some (.int k')) (hd : M.P.underlying d = some (.int k)) (he : evOp call mt fr G (.conv k x) = some (v, G')) :
    ∃ V, (execOp a.eval ⟨dst, .convert s d X, ty, pos, after, guard⟩).run M.P w = .ok (.value V) w ∧ EvR M bx C β fr v V ∧ G' = G := by
    obtain ⟨k', hs⟩ := hs
    have h1 := h.ev hx
    simp only [evOp] at he
    generalize x.ev fr = xv at h1 he
    cases xv <;> simp only at he <;> try (cases he; done)
    injection he with he; injection he with h4 h5
    subst h4
    have e1 := vr_int h1
    exact ⟨_, by simp [execOp, e1, convert, run_underlying hs, run_underlying hd, Conv.intToInt], VR.int _ _, h5.symm⟩
theorem p_mxn (h : St M bx N C0 w0 L C β fr G a w) {x y : Opd} {X Y : Operand} {ts : Array TypeId} (hx : OpR M x X) (hy : OpR M y Y) (he : evOp call mt fr G (.mxn true [x, y]) = some (v, G')) :
    ∃ V, (execOp a.eval ⟨dst, .call { callee := .builtin .max, args := #[X, Y], argTypes := ts }, ty, pos, after, guard⟩).run M.P w = .ok (.value V) w ∧ EvR M bx C β fr v V ∧ G' = G := by
    simp only [evOp, Option.bind_eq_some_iff] at he
    obtain ⟨vs, hvs, he⟩ := he
    simp only [Ai.gevs, Option.bind_eq_some_iff] at hvs
    obtain ⟨xv, hxv, t1, ⟨yv, hyv, t2, ht2, ht1⟩, hvs⟩ := hvs
    injection ht2 with ht2; injection ht1 with ht1; injection hvs with hvs
    subst ht2 ht1 hvs
    have h1 := h.gev hx hxv; have h2 := h.gev hy hyv
    cases xv <;> cases yv <;> simp only at he <;> try (cases he; done)
    rename_i k m k' n
    split at he
    · rename_i hk
      subst hk
      injection he with he; injection he with h4 h5
      subst h4
      have e1 := vr_int h1
      have e2 := vr_int h2
      refine ⟨_, ?_, VR.int _ _, h5.symm⟩
      simp [execOp, resolve, invoke, builtin, e1, e2, Builtin.max_, Builtin.max2]
    · cases he

theorem p_mnn (h : St M bx N C0 w0 L C β fr G a w) {x y : Opd} {X Y : Operand} {ts : Array TypeId} (hx : OpR M x X) (hy : OpR M y Y) (he : evOp call mt fr G (.mxn false [x, y]) = some (v, G')) :
    ∃ V, (execOp a.eval ⟨dst, .call { callee := .builtin .min, args := #[X, Y], argTypes := ts }, ty, pos, after, guard⟩).run M.P w = .ok (.value V) w ∧ EvR M bx C β fr v V ∧ G' = G := by
    simp only [evOp, Option.bind_eq_some_iff] at he
    obtain ⟨vs, hvs, he⟩ := he
    simp only [Ai.gevs, Option.bind_eq_some_iff] at hvs
    obtain ⟨xv, hxv, t1, ⟨yv, hyv, t2, ht2, ht1⟩, hvs⟩ := hvs
    injection ht2 with ht2; injection ht1 with ht1; injection hvs with hvs
    subst ht2 ht1 hvs
    have h1 := h.gev hx hxv; have h2 := h.gev hy hyv
    cases xv <;> cases yv <;> simp only at he <;> try (cases he; done)
    rename_i k m k' n
    split at he
    · rename_i hk
      subst hk
      injection he with he; injection he with h4 h5
      subst h4
      have e1 := vr_int h1
      have e2 := vr_int h2
      refine ⟨_, ?_, VR.int _ _, h5.symm⟩
      simp [execOp, resolve, invoke, builtin, e1, e2, Builtin.min_, Builtin.min2]
    · cases he

end
end Go.Ai
