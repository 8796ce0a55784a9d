/- An operation ahead of others: what it may be swapped with. -/
import Derived.Test.YtffliemhdjcflaaAiS14
import Derived.Test.YtffliemhdjcflaaAiC
set_option linter.unusedVariables false
set_option linter.unusedSimpArgs false
namespace Go.Ai

def AOp.opds : AOp → List Opd
  | .mv x | .boxP x | .boxH x | .load _ x | .nilck x | .nt x | .neg x | .fld _ x | .ext x _ | .fieldv _ _ x | .len x | .slen x | .mki _ x | .mks _ _ x | .conv _ x => [x]
  | .pick c a b => [c, a, b]
  | .allocP _ | .allocH _ => []
  | .build _ ps => ps.map (·.2.2)
  | .litI _ ps | .litO _ ps => ps
  | .store _ x v => [x, v]
  | .bin _ x y | .eqk _ _ x y | .idx _ x y | .app _ _ x y | .cpy _ x y => [x, y]
  | .call _ _ as => as
  | .callv _ x as | .inv x _ as => x :: as
  | .mkf _ cs => cs
  | .sl _ x lo hi => x :: (lo.toList ++ hi.toList)
  | .mxn _ xs => xs
  | .free t | .fz t => [.t t]
  | .again t o => .t t :: o.opds

section
variable {call : CallF} {mt : Nat → Nat → Option Nat} {fr fr' : Fr} {G : AG}

theorem gevs_congr : ∀ (xs : List Opd), (∀ x ∈ xs, x.ev fr' = x.ev fr) → gevs fr' xs = gevs fr xs := by
  intro xs
  induction xs with
  | nil => intro _; rfl
  | cons x xs ih =>
    intro h
    simp only [gevs, Opd.gev, h x (List.mem_cons_self ..), ih (fun y hy => h y (List.mem_cons_of_mem _ hy))]
theorem gcells_congr {x : Opd} (h : x.ev fr' = x.ev fr) : gcells fr' x = gcells fr x := by simp only [gcells, Opd.gev, h]
theorem gcellss_congr : ∀ (xs : List Opd), (∀ x ∈ xs, x.ev fr' = x.ev fr) → gcellss fr' xs = gcellss fr xs := by
  intro xs
  induction xs with
  | nil => intro _; rfl
  | cons x xs ih =>
    intro h
    simp only [gcellss, gcells_congr (h x (List.mem_cons_self ..)), ih (fun y hy => h y (List.mem_cons_of_mem _ hy))]
theorem partsOf_congr : ∀ (ps : List (Nat × Nat × Opd)), (∀ x ∈ ps.map (·.2.2), x.ev fr' = x.ev fr) → partsOf fr' ps = partsOf fr ps := by
  intro xs
  induction xs with
  | nil => intro _; rfl
  | cons p xs ih =>
    obtain ⟨o, n, x⟩ := p
    intro h
    simp only [partsOf, gcells_congr (h x (List.mem_cons_self ..)), ih (fun y hy => h y (List.mem_cons_of_mem _ hy))]
theorem opt_congr {o : Option Opd} (h : ∀ x ∈ o.toList, x.ev fr' = x.ev fr) : o.map (·.ev fr') = o.map (·.ev fr) := by
  cases o with
  | none => rfl
  | some x => simp only [Option.map_some, h x (by simp)]
theorem evOp_congr {o : AOp} (e : ∀ x ∈ o.opds, x.ev fr' = x.ev fr) (b : ∀ k x, o = .load k x → ∀ d c, x.ev fr = .pptr d c → fr' d = fr d) : evOp call mt fr' G o = evOp call mt fr G o := by
  cases o <;> simp only [AOp.opds, List.mem_cons, List.not_mem_nil, or_false, forall_eq_or_imp, forall_eq, List.mem_append] at e <;>
    first
    | rfl
    | (simp only [evOp, Opd.gev, e]; done)
    | (simp only [evOp, gcells_congr e, partsOf_congr _ e, gcellss_congr _ e, gevs_congr _ e]; done)
    | skip
  case load k x =>
    have hb := b k x rfl
    simp only [evOp, e]
    cases hx : x.ev fr <;> try rfl
    simp only [hb _ _ hx]
  case build z ps => simp only [evOp, partsOf_congr ps e]
  case boxH x => simp only [evOp, gcells_congr e]
  case litI z ps => simp only [evOp, gcellss_congr ps e]
  case litO z ps => simp only [evOp, gcellss_congr ps e]
  case call m f as => simp only [evOp, gevs_congr as e]
  case callv m x as => simp only [evOp, e.1, gevs_congr as e.2]
  case inv x n as => simp only [evOp, e.1, gevs_congr as e.2]
  case mkf f cs => simp only [evOp, gevs_congr cs e]
  case mxn m xs => simp only [evOp, gevs_congr xs e]
  case sl z x lo hi =>
    simp only [evOp, e.1, opt_congr (fun x hx => e.2 x (.inl hx)), opt_congr (fun x hx => e.2 x (.inr hx))]

/-- Two frames that differ at t alone, which an operation neither looks at nor gives. -/
structure Off (i : AI) (t : Nat) (fr : Fr) : Prop where
  op : ∀ x ∈ i.op.opds, x ≠ .t t
  g : ∀ s w, i.grd = some (s, w) → s ≠ t
  dst : i.dst ≠ some t
  pp : ∀ x ∈ i.op.opds, ∀ c, x.ev fr ≠ .pptr t c
theorem ev_upd {x : Opd} {t : Nat} {v : AVal} (h : x ≠ .t t) : x.ev (upd fr t v) = x.ev fr := by
  cases x with
  | c v => rfl
  | t n => simp only [Opd.ev, upd]; rw [if_neg (fun e => h (by rw [e]))]
theorem upd_ne {t s : Nat} {v : AVal} (h : s ≠ t) : upd fr t v s = fr s := by simp only [upd]; rw [if_neg h]
theorem upd_eq {t : Nat} {v : AVal} : upd fr t v t = v := by simp [upd]
theorem upd_comm {t s : Nat} {u v : AVal} (h : s ≠ t) : upd (upd fr t v) s u = upd (upd fr s u) t v := by
  funext n
  simp only [upd]
  by_cases h1 : n = s <;> by_cases h2 : n = t <;> simp [h1, h2]
  · exact absurd (h1.symm.trans h2) h
  · intro e; exact absurd e h
  · intro e; exact absurd e.symm h
theorem put_upd {t : Nat} {d : Option Nat} {u v : AVal} (h : d ≠ some t) : put (upd fr t v) d u = upd (put fr d u) t v := by
  cases d with
  | none => rfl
  | some d => exact upd_comm (fun e => h (by rw [e]))
theorem evOp_off {o : AOp} {t : Nat} {v : AVal} (h : ∀ x ∈ o.opds, x ≠ .t t) (hp : ∀ x ∈ o.opds, ∀ c, x.ev fr ≠ .pptr t c) : evOp call mt (upd fr t v) G o = evOp call mt fr G o := by
  refine evOp_congr (fun x hx => ev_upd (h x hx)) (fun k x e d c hd => ?_)
  subst e
  exact upd_ne (fun e => hp x (by simp [AOp.opds]) c (by rw [← e]; exact hd))
theorem evD_off {i : AI} {t : Nat} {v : AVal} (h : Off i t fr) : evD call mt i (upd fr t v) G = (evD call mt i fr G).map fun s => (upd s.1 t v, s.2) := by
  obtain ⟨j, d, g, o⟩ := i
  obtain ⟨h1, h2, h3, h4⟩ := h
  simp only at h1 h2 h3 h4
  have key : ((evOp call mt (upd fr t v) G o).bind fun r => some (put (upd fr t v) d r.1, r.2)) = ((evOp call mt fr G o).bind fun r => some (put fr d r.1, r.2)).map fun s => (upd s.1 t v, s.2) := by
    rw [evOp_off h1 h4]
    cases evOp call mt fr G o with
    | none => rfl
    | some r => simp only [Option.bind_some, Option.map_some, put_upd h3]
  cases o <;> first | exact key | skip
  case boxP x =>
    cases d with
    | none => rfl
    | some d =>
      have hd : d ≠ t := fun e => h3 (by rw [e])
      have hx : gcells (upd fr t v) x = gcells fr x := gcells_congr (ev_upd (h1 x (by simp [AOp.opds])))
      simp only [evD, upd_ne hd, hx]
      cases fr d <;> try rfl
      simp only
      cases gcells fr x with
      | none => rfl
      | some cs => simp only [Option.bind_some, Option.map_some, upd_comm hd]
  case allocP z =>
    cases d with
    | none => rfl
    | some d =>
      have hd : d ≠ t := fun e => h3 (by rw [e])
      simp only [evD, upd_ne hd]
      cases fr d <;> try rfl
      simp only [Option.map_some, upd_comm hd]
  case store n x u =>
    have hx : x.ev (upd fr t v) = x.ev fr := ev_upd (h1 x (by simp [AOp.opds]))
    have hu : gcells (upd fr t v) u = gcells fr u := gcells_congr (ev_upd (h1 u (by simp [AOp.opds])))
    simp only [evD, hx, hu]
    cases gcells fr u with
    | none => rfl
    | some vs =>
      simp only [Option.bind_some]
      by_cases hn : vs.length = n
      · rw [if_pos hn, if_pos hn]
        cases hxe : x.ev fr <;> try rfl
        · rename_i id i c
          simp only
          cases G.obj id with
          | none => rfl
          | some es =>
            simp only [Option.bind_some]
            cases es[i]? with
            | none => rfl
            | some e => simp only [Option.bind_some]; split <;> rfl
        · rename_i b c
          have hb : b ≠ t := fun e => h4 x (by simp [AOp.opds]) c (by rw [← e]; exact hxe)
          simp only [upd_ne hb]
          cases fr b <;> try rfl
          simp only
          split
          · simp only [Option.map_some, upd_comm hb]
          · rfl
      · rw [if_neg hn, if_neg hn]; rfl
  case free s =>
    have hs : s ≠ t := fun e => h1 (.t s) (by simp [AOp.opds]) (by rw [e])
    simp only [evD, upd_ne hs]
    cases fr s <;> rfl
  case again s o =>
    have hs : s ≠ t := fun e => h1 (.t s) (by simp [AOp.opds]) (by rw [e])
    have ho : evOp call mt (upd fr t v) G o = evOp call mt fr G o := evOp_off (fun x hx => h1 x (by simp [AOp.opds, hx])) (fun x hx => h4 x (by simp [AOp.opds, hx]))
    simp only [evD, upd_ne hs, ho]
    cases evOp call mt fr G o with
    | none => rfl
    | some r => simp only [Option.bind_some]; by_cases hc : r.1 = fr s
                · rw [if_pos (show r.1 = upd fr t v s by rw [upd_ne hs]; exact hc), if_pos hc]; rfl
                · rw [if_neg (show ¬ r.1 = upd fr t v s by rw [upd_ne hs]; exact hc), if_neg hc]; rfl
theorem evI_off {i : AI} {t : Nat} {v : AVal} (h : Off i t fr) : evI call mt i (upd fr t v) G = (evI call mt i fr G).map fun s => (upd s.1 t v, s.2) := by
  unfold evI
  cases hg : i.grd with
  | none => exact evD_off h
  | some sw =>
    obtain ⟨s, w⟩ := sw
    have hs : s ≠ t := h.g s w hg
    simp only [upd_ne hs]
    cases fr s <;> try rfl
    · rename_i b
      simp only
      split
      · exact evD_off h
      · simp only [Option.map_some, put_upd h.dst]
    · rename_i vs
      cases vs with
      | nil => simp only [Option.map_some, put_upd h.dst]
      | cons v vs => rfl

/-- What reads the heap or a struct variable. -/
def AOp.mem : AOp → Bool
  | .load _ _ | .idx _ _ _ | .sl _ _ _ _ => true
  | _ => false
/-- What depends on its operands alone. -/
def AOp.pure : AOp → Bool
  | .mv _ | .pick _ _ _ | .boxP _ | .allocP _ | .build _ _ | .litI _ _ | .nilck _ | .bin _ _ _ | .eqk _ _ _ _ | .nt _ | .neg _ | .fld _ _ | .ext _ _ | .fieldv _ _ _ | .len _ | .slen _ | .mkf _ _ | .mki _ _ | .conv _ _ | .mxn _ _ => true
  | _ => false
open Classical in
theorem evOp_pure {o : AOp} (h : o.pure = true) (hb : (∀ x, o ≠ .boxP x) ∧ ∀ z, o ≠ .allocP z) : ∃ u : Option AVal, ∀ G, evOp call mt fr G o = u.map fun v => (v, G) := by
  cases o <;> simp only [AOp.pure, Bool.false_eq_true] at h <;> try (exact absurd rfl (hb.1 _)) <;> try (exact absurd rfl (hb.2 _))
  case allocP z => exact absurd rfl (hb.2 z)
  case mv x => exact ⟨some (x.ev fr), fun _ => rfl⟩
  case pick c a b =>
    refine ⟨pickv (c.ev fr) (a.ev fr) (b.ev fr), fun G => ?_⟩
    simp only [evOp]
    generalize c.ev fr = x, a.ev fr = y, b.ev fr = z
    cases x <;> cases y <;> cases z <;> rfl
  case build z ps => exact ⟨(partsOf fr ps).map fun vs => .agg (fillB z vs), fun G => by simp only [evOp]; cases partsOf fr ps <;> rfl⟩
  case litI z ps =>
    refine ⟨(gcellss fr ps).bind fun es => if (∀ e ∈ es, e.length = z) then some (.list es) else none, fun G => ?_⟩
    simp only [evOp]
    cases gcellss fr ps with
    | none => rfl
    | some es => simp only [Option.bind_some]; by_cases hc : ∀ e ∈ es, e.length = z
                 · rw [if_pos hc, if_pos hc]; rfl
                 · rw [if_neg hc, if_neg hc]; rfl
  case nilck x => exact ⟨nilckV (x.ev fr), fun G => by simp only [evOp]; cases x.ev fr <;> rfl⟩
  case bin op x y =>
    refine ⟨(x.gev fr).bind fun a => (y.gev fr).bind fun b => binv op a b, fun G => ?_⟩
    simp only [evOp]
    cases x.gev fr with
    | none => rfl
    | some a => cases y.gev fr with
      | none => rfl
      | some b => simp only [Option.bind_some]; cases binv op a b <;> rfl
  case eqk k neg x y =>
    refine ⟨(x.gev fr).bind fun a => (y.gev fr).bind fun b => eqkv k neg a b, fun G => ?_⟩
    simp only [evOp]
    cases x.gev fr with
    | none => rfl
    | some a => cases y.gev fr with
      | none => rfl
      | some b => simp only [Option.bind_some]; cases eqkv k neg a b <;> rfl
  case nt x => exact ⟨ntV (x.ev fr), fun G => by simp only [evOp]; cases x.ev fr <;> rfl⟩
  case neg x => exact ⟨negV (x.ev fr), fun G => by simp only [evOp]; cases x.ev fr <;> rfl⟩
  case fld off x => exact ⟨fldV off (x.ev fr), fun G => by simp only [evOp]; cases x.ev fr <;> rfl⟩
  case ext x i =>
    refine ⟨extV i (x.ev fr), fun G => ?_⟩
    simp only [evOp]
    cases x.ev fr <;> try rfl
    rename_i vs
    simp only [extV]
    cases vs[i]? <;> rfl
  case fieldv off k x =>
    refine ⟨fieldV off k (x.ev fr), fun G => ?_⟩
    simp only [evOp]
    cases x.ev fr <;> try rfl
    rename_i cs
    simp only [fieldV]
    cases ldv k cs off <;> rfl
  case len x => exact ⟨lenV (x.ev fr), fun G => by simp only [evOp]; cases x.ev fr <;> rfl⟩
  case slen x => exact ⟨slenV (x.ev fr), fun G => by simp only [evOp]; cases x.ev fr <;> rfl⟩
  case mkf f caps => exact ⟨(gevs fr caps).map (.func f), fun G => by simp only [evOp]; cases gevs fr caps <;> rfl⟩
  case mki t x => exact ⟨(x.gev fr).map (.iface t), fun G => by simp only [evOp]; cases x.gev fr <;> rfl⟩
  case conv k x => exact ⟨convV k (x.ev fr), fun G => by simp only [evOp]; cases x.ev fr <;> rfl⟩
  case mxn mx xs =>
    refine ⟨(gevs fr xs).bind fun vs => match vs with
      | [.int k a, .int k' b] => if k = k' then some (.int k (if mx then (if b > a then b else a) else (if b < a then b else a))) else none
      | _ => none, fun G => ?_⟩
    simp only [evOp]
    cases gevs fr xs with
    | none => rfl
    | some vs =>
      simp only [Option.bind_some]
      split
      · rename_i k a k' b
        by_cases hk : k = k'
        · simp only [if_pos hk]; rfl
        · simp only [if_neg hk]; rfl
      · rename_i hn
        split
        · exact absurd rfl (hn _ _ _ _)
        · rfl
theorem evOp_mem {o : AOp} (h : o.mem = true) : ∃ u : Option AVal, evOp call mt fr G o = u.map fun v => (v, G) := by
  cases o <;> simp only [AOp.mem, Bool.false_eq_true] at h
  · exact ⟨_, ev_load⟩
  · exact ⟨_, ev_idx⟩
  · exact ⟨_, ev_sl⟩
end
end Go.Ai
