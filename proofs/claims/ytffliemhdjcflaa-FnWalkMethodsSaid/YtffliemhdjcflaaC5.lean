/- Two neighbours change places; one goes ahead of a list. Every order of a region whose order is drawn comes to the same. Regions: in the text's order, in an order that is drawn. Code, functions, and the whole: what a run of the lowered program answers, the program answers. Functions, and the whole: what a run of the lowered program answers, the program answers. -/
import Derived.Test.YtffliemhdjcflaaC4
import Derived.Orders
import Derived.LoopN
set_option linter.unusedVariables false
set_option linter.unusedSimpArgs false
namespace Go.Ai
/-- q stands before p in the text, p may go first. -/
structure Sw (q p : AI) : Prop where
  qp : ∀ t, p.dst = some t → OffS q t
  pq : ∀ t, q.dst = some t → OffS p t
  kind : (q.op.simple = true ∧ p.op.simple = true) ∨ (q.op.simple = true ∧ p.op.simple = false) ∨ (q.op.simple = false ∧ p.op.pure = true)
/-- An operation of a region whose order is drawn. -/
structure Okg (bx : List Nat) (i : AI) : Prop where
  d : DstS bx i
  self : i.op.mem = true → ∃ t, i.dst = some t ∧ (∀ x ∈ i.op.opds, x ≠ .t t) ∧ ∀ s w, i.grd = some (s, w) → s ≠ t
  pc : ∀ x ∈ i.op.opds, NoPC x
section
variable {call : CallF} {mt : Nat → Nat → Option Nat} {fr fr' fr1 fr2 : Fr} {G G' G1 G2 : AG} {bx : List Nat}

/-- The frame that an operation leaves, at what another does not look at. -/
theorem view_eq {i p : AI} (hp : PPf bx fr) (he : evI call mt i fr G = some (fr1, G1)) {x : Opd} (hx : ∀ t, i.dst = some t → x ≠ .t t) : x.ev fr1 = x.ev fr := by
  rcases frame_of he with h | ⟨v, h⟩ | ⟨d, cs, cs', hd, h⟩
  · rw [h]
  · rw [h]
    cases hdst : i.dst with
    | none => rfl
    | some t => exact ev_upd (hx t hdst)
  · rw [h]
    cases x with
    | c v => rfl
    | t n =>
      simp only [Opd.ev, upd]
      split
      · rename_i e; rw [e, hd]; rfl
      · rfl
theorem slot_eq {i : AI} (he : evI call mt i fr G = some (fr1, G1)) {s : Nat} (hs : i.dst ≠ some s) (hb : (∃ cs, fr s = .pbox cs) → False) : fr1 s = fr s := by
  rcases frame_of he with h | ⟨v, h⟩ | ⟨d, cs, cs', hd, h⟩
  · rw [h]
  · rw [h]; exact put_ne hs
  · rw [h]
    refine upd_ne (fun e => hb ⟨cs, by rw [e]; exact hd⟩)
theorem slot_back {i : AI} (he : evI call mt i fr G = some (fr1, G1)) {s : Nat} (hs : i.dst ≠ some s) (hb : (∃ cs, fr1 s = .pbox cs) → False) : fr s = fr1 s := by
  refine (slot_eq he hs ?_).symm
  rintro ⟨cs, hcs⟩
  rcases frame_of he with h | ⟨v, h⟩ | ⟨d, cs0, cs', hd, h⟩
  · exact hb ⟨cs, by rw [h]; exact hcs⟩
  · exact hb ⟨cs, by rw [h, put_ne hs]; exact hcs⟩
  · by_cases e : s = d
    · exact hb ⟨cs', by rw [h, e]; exact upd_eq⟩
    · exact hb ⟨cs, by rw [h, upd_ne e]; exact hcs⟩

theorem swap0 {q p : AI} (hs : Sw q p) (hq : Okg bx q) (hp : Okg bx p) (h0 : PPf bx fr) (e1 : evI call mt q fr G = some (fr1, G1)) (e2 : evI call mt p fr1 G1 = some (fr2, G2))
    (hpp : ∀ fr' G', evI call mt p fr G = some (fr', G') → PPf bx fr') (hag : q.op.mem = true → p.op.simple = false → ∀ t, q.dst = some t → evI call mt (againOf q t) fr2 G2 = some (fr2, G2)) :
    ∃ fr' G', evI call mt p fr G = some (fr', G') ∧ evI call mt q fr' G' = some (fr2, G2) := by
  have hne : ∀ t, q.dst = some t → p.dst ≠ some t := fun t ht => (hs.pq t ht).dst
  rcases Classical.em (q.op.simple = true) with hqs | hqs
  · obtain ⟨hG, vq, hfr1, hqd⟩ := simple_frame hqs hq.d e1
    subst hG
    have hoffp : ∀ t, q.dst = some t → Off p t fr := fun t ht => (hs.pq t ht).off h0 (hqd t ht)
    rw [hfr1, off_put hoffp] at e2
    simp only [Option.map_eq_some_iff] at e2
    obtain ⟨⟨frp, Gp⟩, ep, e2⟩ := e2
    injection e2 with e2 e3
    subst e3
    refine ⟨frp, Gp, ep, ?_⟩
    rcases Classical.em (p.op.simple = true) with hps | hps
    · obtain ⟨hG, vp, hfrp, hpd⟩ := simple_frame hps hp.d ep
      have hG' : Gp = G1 := hG
      subst hG'
      have hoffq : ∀ t, p.dst = some t → Off q t fr := fun t ht => (hs.qp t ht).off h0 (hpd t ht)
      rw [hfrp, off_put hoffq, e1]
      simp only [Option.map_some, hfr1, ← e2, hfrp]
      rw [put_comm hne]
    · have hpsf : p.op.simple = false := by simpa using hps
      have hfree : ∀ x ∈ q.op.opds, x.ev frp = x.ev fr := fun x hx => view_eq (p := p) h0 ep (fun t ht => (hs.qp t ht).op x hx)
      have hgd : ∀ s w, q.grd = some (s, w) → ((∃ b, fr s = .bool b) ∨ fr s = .tuple []) → frp s = fr s := by
        intro s w hg hb
        refine slot_eq ep (fun e => (hs.qp s e).g s w hg rfl) ?_
        rintro ⟨cs, hcs⟩
        rcases hb with ⟨b, hb⟩ | hb <;> rw [hb] at hcs <;> cases hcs
      have hqs' := hqs
      simp only [AOp.simple, Bool.or_eq_true] at hqs'
      rw [← e2]
      rcases hqs' with hpu | hme
      · rw [hfr1] at e1
        obtain ⟨u, hu1, hu2⟩ := pure_move (fr2 := frp) (G2 := Gp) hpu hq.d e1 hfree hgd (fun t ht hu => by
          rw [slot_eq ep (fun e => (hs.qp t e).dst ht) (by rintro ⟨cs, hcs⟩; rw [hu] at hcs; cases hcs)]; exact hu)
        rw [hu2]
        cases hd : q.dst with
        | none => rfl
        | some t =>
          rw [hd] at hu1
          have := congrFun hu1 t
          simp only [put, upd, if_true] at this
          rw [this]
      · obtain ⟨t, hdt, hself, hsg⟩ := hq.self hme
        have hnb : q.op.isBox = false := by
          cases hb : q.op.isBox with
          | false => rfl
          | true =>
            exfalso
            obtain ⟨j, d, g, o⟩ := q
            cases o <;> simp [AOp.isBox, AOp.mem] at hb hme
        have htb : t ∉ bx := hq.d.2 hnb t hdt
        have hag' := hag hme hpsf t hdt
        rw [← e2, hdt] at hag'
        have hppf : PPf bx frp := hpp frp Gp ep
        have hevs : evOp call mt (put frp (some t) vq) Gp q.op = evOp call mt frp Gp q.op := evOp_off hself (fun x hx c => hppf.no (hq.pc x hx) (hself x hx) (.inl htb) c)
        have hD : evD call mt (againOf q t) (put frp (some t) vq) Gp = some (put frp (some t) vq, Gp) → evD call mt q frp Gp = some (put frp q.dst vq, Gp) := by
          intro h
          simp only [againOf, evD, hevs, Option.bind_eq_some_iff] at h
          obtain ⟨⟨u, Gu⟩, hu, h⟩ := h
          split at h
          · rename_i hc
            rw [evD_val hqs hnb, hu]
            obtain ⟨u', hu'⟩ := evOp_mem (call := call) (mt := mt) (fr := frp) (G := Gp) hme
            rw [hu] at hu'
            cases u' with
            | none => cases hu'
            | some u' =>
              injection hu' with hu'; injection hu' with e3 e4
              have e4' : Gu = Gp := e4
              subst e4'
              have hc' : u = vq := by
                have : u = upd frp t vq t := hc
                rw [this, upd_eq]
              rw [hc']; rfl
          · cases h
        unfold evI at hag' e1 ⊢
        cases hg : q.grd with
        | none =>
          have hg' : (againOf q t).grd = none := hg
          rw [hg'] at hag'
          exact hD hag'
        | some sw =>
          obtain ⟨s, w⟩ := sw
          have hg' : (againOf q t).grd = some (s, w) := hg
          rw [hg'] at hag'
          rw [hg] at e1
          have hst : s ≠ t := hsg s w hg
          have hput : put frp (some t) vq s = frp s := put_ne (fun e => hst (by injection e with e; exact e.symm))
          simp only [hput] at hag'
          simp only at e1 ⊢
          have hfs : ((∃ b, fr s = .bool b) ∨ fr s = .tuple []) := by
            split at e1
            · rename_i b hb; exact .inl ⟨b, hb⟩
            · rename_i hb; exact .inr hb
            · cases e1
          have hss := hgd s w hg hfs
          rcases hfs with ⟨b, hb⟩ | hb
          · rw [hss, hb] at hag' ⊢
            rw [hb] at e1
            simp only at hag' e1 ⊢
            by_cases hw : b = w
            · rw [if_pos hw] at hag' ⊢; exact hD hag'
            · rw [if_neg hw] at e1 ⊢
              injection e1 with e1; injection e1 with e3 e4
              rw [hfr1, hdt] at e3
              have := congrFun e3 t
              simp only [put, upd, if_true] at this
              rw [this]
          · rw [hss, hb]
            rw [hb] at e1
            simp only at e1 ⊢
            injection e1 with e1; injection e1 with e3 e4
            rw [hfr1, hdt] at e3
            have := congrFun e3 t
            simp only [put, upd, if_true] at this
            rw [this]
  · have hqsf : q.op.simple = false := by simpa using hqs
    have hpu : p.op.pure = true := by
      rcases hs.kind with ⟨h, _⟩ | ⟨h, _⟩ | ⟨_, h⟩
      · exact absurd h hqs
      · exact absurd h hqs
      · exact h
    have hps : p.op.simple = true := by simp [AOp.simple, hpu]
    obtain ⟨hG, vp, hfr2, hpd⟩ := simple_frame hps hp.d e2
    have hG' : G2 = G1 := hG
    subst hG'
    rw [hfr2] at e2
    have hview : ∀ x ∈ p.op.opds, x.ev fr = x.ev fr1 := fun x hx => (view_eq (p := p) h0 e1 (fun t ht => (hs.pq t ht).op x hx)).symm
    obtain ⟨u, hu1, hu2⟩ := pure_move (fr2 := fr) (G2 := G) hpu hp.d e2 hview (fun s w hg hb => by
        refine slot_back e1 (fun e => (hs.pq s e).g s w hg rfl) ?_
        rintro ⟨cs, hcs⟩
        rcases hb with ⟨b, hb⟩ | hb <;> rw [hb] at hcs <;> cases hcs)
      (fun t ht hu => by rw [slot_back e1 (fun e => (hs.pq t e).dst ht) (by rintro ⟨cs, hcs⟩; rw [hu] at hcs; cases hcs)]; exact hu)
    obtain ⟨_, v2, hv2, hpd0⟩ := simple_frame hps hp.d hu2
    refine ⟨_, _, hu2, ?_⟩
    rw [off_put (fun t ht => (hs.qp t ht).off h0 (hpd0 t ht)), e1]
    simp only [Option.map_some, hfr2, hu1]
end
end Go.Ai
set_option linter.unusedVariables false
set_option linter.unusedSimpArgs false
namespace Go.Ai
variable {M : SM}
abbrev Grp := AI × List AI
def flat (gs : List Grp) : List AI := gs.flatMap fun g => g.1 :: g.2
def Gh (a : AI) : Prop := a.dst = none ∧ ∃ t o, a.op = .again t o
section
variable {call : CallF} {mt : Nat → Nat → Option Nat} {bx : List Nat}
open Classical in
noncomputable def evP (call : CallF) (mt : Nat → Nat → Option Nat) (g : Grp) (s : S2) : Option S2 := (evI call mt g.1 s.1 s.2).bind fun s1 => if (∀ a ∈ g.2, evI call mt a s1.1 s1.2 = some s1) then some s1 else none
noncomputable def evL (call : CallF) (mt : Nat → Nat → Option Nat) : List Grp → S2 → Option S2
  | [], s => some s
  | g :: gs, s => (evP call mt g s).bind (evL call mt gs)
theorem evL_append : ∀ (xs ys : List Grp) (s : S2), evL call mt (xs ++ ys) s = (evL call mt xs s).bind (evL call mt ys) := by
  intro xs
  induction xs with
  | nil => intro ys s; rfl
  | cons x xs ih =>
    intro ys s
    simp only [List.cons_append, evL]
    cases evP call mt x s with
    | none => rfl
    | some s1 => simp only [Option.bind_some]; exact ih ys s1
theorem evP_some {g : Grp} {s s1 : S2} : evP call mt g s = some s1 ↔ evI call mt g.1 s.1 s.2 = some s1 ∧ ∀ a ∈ g.2, evI call mt a s1.1 s1.2 = some s1 := by
  simp only [evP, Option.bind_eq_some_iff]
  constructor
  · rintro ⟨s2, h1, h2⟩
    split at h2
    · rename_i h3; injection h2 with h2; subst h2; exact ⟨h1, h3⟩
    · cases h2
  · rintro ⟨h1, h2⟩
    exact ⟨s1, h1, if_pos h2⟩
theorem ghost_same {a : AI} (h : Gh a) {fr : Fr} {G : AG} {s : S2} (he : evI call mt a fr G = some s) : s = (fr, G) := by
  obtain ⟨j, d, g, o⟩ := a
  obtain ⟨h1, t, o', h2⟩ := h
  have h1' : d = none := h1
  have h2' : o = .again t o' := h2
  subst h1' h2'
  have hD : evD call mt ⟨j, none, g, .again t o'⟩ fr G = some s → s = (fr, G) := by
    intro h
    simp only [evD, Option.bind_eq_some_iff] at h
    obtain ⟨r, _, h⟩ := h
    split at h
    · injection h with h; exact h.symm
    · cases h
  unfold evI at he
  split at he
  · exact hD he
  · split at he
    · split at he
      · exact hD he
      · injection he with he; exact he.symm
    · injection he with he; exact he.symm
    · cases he
theorem evIs_append : ∀ (xs ys : List AI) (fr : Fr) (G : AG), evIs call mt (xs ++ ys) fr G = (evIs call mt xs fr G).bind fun s => evIs call mt ys s.1 s.2 := by
  intro xs
  induction xs with
  | nil => intro ys fr G; rfl
  | cons x xs ih =>
    intro ys fr G
    simp only [List.cons_append, evIs]
    cases evI call mt x fr G with
    | none => rfl
    | some s => simp only [Option.bind_some]; exact ih ys s.1 s.2
theorem ghosts_same : ∀ (as : List AI) (fr : Fr) (G : AG) (s : S2), (∀ a ∈ as, Gh a) → evIs call mt as fr G = some s → s = (fr, G) ∧ ∀ a ∈ as, evI call mt a fr G = some (fr, G) := by
  intro as
  induction as with
  | nil => intro fr G s _ h; injection h with h; exact ⟨h.symm, by simp⟩
  | cons a as ih =>
    intro fr G s hg h
    simp only [evIs, Option.bind_eq_some_iff] at h
    obtain ⟨s1, h1, h2⟩ := h
    have h3 := ghost_same (hg a (List.mem_cons_self ..)) h1
    subst h3
    obtain ⟨h4, h5⟩ := ih fr G s (fun b hb => hg b (List.mem_cons_of_mem _ hb)) h2
    refine ⟨h4, fun b hb => ?_⟩
    rcases List.mem_cons.1 hb with rfl | hb
    · exact h1
    · exact h5 b hb
theorem evL_flat : ∀ (gs : List Grp) (fr : Fr) (G : AG) (s : S2), (∀ g ∈ gs, ∀ a ∈ g.2, Gh a) → evIs call mt (flat gs) fr G = some s → evL call mt gs (fr, G) = some s := by
  intro gs
  induction gs with
  | nil => intro fr G s _ h; exact h
  | cons g gs ih =>
    intro fr G s hg h
    have e : flat (g :: gs) = g.1 :: (g.2 ++ flat gs) := by simp [flat]
    rw [e] at h
    simp only [evIs, Option.bind_eq_some_iff] at h
    obtain ⟨s1, h1, h2⟩ := h
    rw [evIs_append] at h2
    simp only [Option.bind_eq_some_iff] at h2
    obtain ⟨s2, h2, h3⟩ := h2
    obtain ⟨h4, h5⟩ := ghosts_same g.2 s1.1 s1.2 s2 (hg g (List.mem_cons_self ..)) h2
    subst h4
    simp only [evL, Option.bind_eq_some_iff]
    exact ⟨s1, evP_some.2 ⟨h1, h5⟩, ih s1.1 s1.2 s (fun b hb => hg b (List.mem_cons_of_mem _ hb)) h3⟩

/-- What is asked of those that one goes ahead of. -/
structure Bub (bx : List Nat) (R : S2 → Prop) (call : CallF) (mt : Nat → Nat → Option Nat) (pre : List Grp) (p : AI) : Prop where
  okp : Okg bx p
  ok : ∀ g ∈ pre, Okg bx g.1 ∧ (g.1.op.simple = true → g.2 = []) ∧ ∀ a ∈ g.2, Gh a
  sw : ∀ g ∈ pre, Sw g.1 p ∧ ∀ a ∈ g.2, ∀ t, p.dst = some t → OffS a t
  pair : pre.Pairwise fun m q => m.1.op.mem = true → q.1.op.simple = true → ∀ t, q.1.dst = some t → OffS m.1 t
  r : ∀ s, R s → PPf bx s.1
  rs : ∀ g ∈ pre, ∀ s s', R s → evI call mt g.1 s.1 s.2 = some s' → R s'
  rp : ∀ s s', R s → evI call mt p s.1 s.2 = some s' → R s'
theorem evL_R {R : S2 → Prop} : ∀ (pre : List Grp) (s s1 : S2), (∀ g ∈ pre, ∀ s s', R s → evI call mt g.1 s.1 s.2 = some s' → R s') → R s → evL call mt pre s = some s1 → R s1 := by
  intro pre
  induction pre with
  | nil => intro s s1 _ h he; injection he with he; rw [← he]; exact h
  | cons g gs ih =>
    intro s s1 hr h he
    simp only [evL, Option.bind_eq_some_iff] at he
    obtain ⟨s2, h1, h2⟩ := he
    exact ih s2 s1 (fun b hb => hr b (List.mem_cons_of_mem _ hb)) (hr g (List.mem_cons_self ..) s s2 h (evP_some.1 h1).1) h2
theorem again_off {m : AI} {t u : Nat} (h : OffS m u) (hm : m.dst = some t) : OffS (againOf m t) u := by
  refine ⟨fun x hx => ?_, h.g, by simp [againOf], fun x hx => ?_⟩
  · have hx' : x ∈ Opd.t t :: m.op.opds := hx
    rcases List.mem_cons.1 hx' with rfl | hx'
    · intro e; injection e with e; exact h.dst (by rw [hm, e])
    · exact h.op x hx'
  · have hx' : x ∈ Opd.t t :: m.op.opds := hx
    rcases List.mem_cons.1 hx' with rfl | hx'
    · intro d c e; cases e
    · exact h.pc x hx'
theorem bubble {R : S2 → Prop} {p : AI} : ∀ (n : Nat) (pre : List Grp) (s s1 s2 : S2), pre.length = n → Bub bx R call mt pre p → evL call mt pre s = some s1 → evI call mt p s1.1 s1.2 = some s2 →
    (p.op.simple = false → ∀ m ∈ pre, m.1.op.mem = true → ∀ t, m.1.dst = some t → evI call mt (againOf m.1 t) s2.1 s2.2 = some s2) → R s → ∃ s', evI call mt p s.1 s.2 = some s' ∧ evL call mt pre s' = some s2 := by
  intro n
  induction n with
  | zero =>
    intro pre s s1 s2 hl hb h1 h2 _ _
    have : pre = [] := List.length_eq_zero_iff.1 hl
    subst this
    injection h1 with h1
    subst h1
    exact ⟨s2, h2, rfl⟩
  | succ n ih =>
    intro pre s s1 s2 hl hb h1 h2 hag hR
    rcases List.eq_nil_or_concat pre with e | ⟨pre', g, e⟩
    · rw [e] at hl; simp at hl
    · rw [List.concat_eq_append] at e
      subst e
      rw [evL_append] at h1
      simp only [Option.bind_eq_some_iff] at h1
      obtain ⟨s0, h0, h1⟩ := h1
      simp only [evL, Option.bind_eq_some_iff] at h1
      obtain ⟨s1', h1, h1e⟩ := h1
      injection h1e with h1e
      subst h1e
      obtain ⟨hq, hchk⟩ := evP_some.1 h1
      have hmem : g ∈ pre' ++ [g] := by simp
      have hsub : ∀ m ∈ pre', m ∈ pre' ++ [g] := fun m hm => by simp [hm]
      have hR0 : R s0 := evL_R pre' s s0 (fun m hm => hb.rs m (hsub m hm)) hR h0
      have hR1 : R s1' := hb.rs g hmem s0 s1' hR0 hq
      obtain ⟨hsw, hswc⟩ := hb.sw g hmem
      obtain ⟨hok, hok2, hok3⟩ := hb.ok g hmem
      obtain ⟨fr', G', ep, eq'⟩ := swap0 hsw hok hb.okp (hb.r s0 hR0) hq h2 (fun fr' G' he => hb.r (fr', G') (hb.rp s0 (fr', G') hR0 he)) (fun hm hp t ht => hag hp g hmem hm t ht)
      have hRp : R (fr', G') := hb.rp s0 (fr', G') hR0 ep
      have hbs : Bub bx R call mt pre' p := ⟨hb.okp, fun m hm => hb.ok m (hsub m hm), fun m hm => hb.sw m (hsub m hm), (List.pairwise_append.1 hb.pair).1, hb.r, fun m hm => hb.rs m (hsub m hm), hb.rp⟩
      have hlen : pre'.length = n := by simp at hl; exact hl
      have hcq : ∀ a ∈ g.2, evI call mt a s2.1 s2.2 = some s2 := by
        intro a ha
        rcases hsw.kind with ⟨hk, _⟩ | ⟨hk, _⟩ | ⟨_, hk⟩
        · rw [hok2 hk] at ha; cases ha
        · rw [hok2 hk] at ha; cases ha
        · obtain ⟨hG, v, hfr, hpd⟩ := simple_frame (by simp [AOp.simple, hk] : p.op.simple = true) hb.okp.d (show evI call mt p s1'.1 s1'.2 = some (s2.1, s2.2) from h2)
          have := off_put (call := call) (mt := mt) (G := s1'.2) (v := v) (fun t ht => (hswc a ha t ht).off (hb.r _ hR1) (hpd t ht))
          rw [hchk a ha] at this
          rw [hfr, hG, this]
          simp only [Option.map_some]
          rw [← hfr, ← hG]
      have hag' : p.op.simple = false → ∀ m ∈ pre', m.1.op.mem = true → ∀ t, m.1.dst = some t → evI call mt (againOf m.1 t) fr' G' = some (fr', G') := by
        intro hp m hm hmm t ht
        have h5 := hag hp m (hsub m hm) hmm t ht
        have hqs : g.1.op.simple = true := by
          rcases hsw.kind with ⟨hk, _⟩ | ⟨hk, _⟩ | ⟨_, hk⟩
          · exact hk
          · exact hk
          · simp [AOp.simple, hk] at hp
        obtain ⟨hG, v, hfr, hqd⟩ := simple_frame hqs hok.d (show evI call mt g.1 fr' G' = some (s2.1, s2.2) from eq')
        have hpw := (List.pairwise_append.1 hb.pair).2.2 m hm g (by simp) hmm hqs
        have h6 := off_put (call := call) (mt := mt) (G := G') (v := v) (fun t' ht' => (again_off (hpw t' ht') ht).off (hb.r _ hRp) (hqd t' ht'))
        rw [← hfr, ← hG, h5] at h6
        cases h7 : evI call mt (againOf m.1 t) fr' s2.2 with
        | none => rw [h7] at h6; cases h6
        | some s7 =>
          have h8 := ghost_same (show Gh (againOf m.1 t) from ⟨rfl, t, m.1.op, rfl⟩) h7
          rw [← hG, h7, h8, hG]
      obtain ⟨s', h8, h9⟩ := ih pre' s s0 (fr', G') hlen hbs h0 ep hag' hR
      refine ⟨s', h8, ?_⟩
      rw [evL_append, h9]
      simp only [Option.bind_some, evL]
      rw [evP_some.2 ⟨eq', hcq⟩]
      rfl
end
end Go.Ai
set_option linter.unusedVariables false
set_option linter.unusedSimpArgs false
namespace Go.Ai
variable {M : SM}

inductive GrdOk (ops : Array Oper) : Option (Nat × Bool) → Option (Nat × Bool) → Prop
  | none : GrdOk ops none none
  | some (s w jj og) (h1 : ops[jj]? = some og) (h2 : og.dst = some s) : GrdOk ops (some (s, w)) (some (jj, w))
structure OpI (M : SM) (bx : List Nat) (N : Nat) (ops : Array Oper) (i : AI) (o : Oper) : Prop where
  at_ : ops[i.j]? = some o
  dst : i.dst = o.dst
  op : OpA M bx N o.dst i.op o.op
  g : GrdOk ops i.grd o.guard
  bx : i.op.isBox = true → i.grd = none
theorem OpA.dst {bx : List Nat} {N : Nat} {dst : Option Tmp} {o : AOp} {op : Op} (h : OpA M bx N dst o op) (hb : o.isBox = false) : DstOk bx N dst := by
  cases h <;> first | assumption | (simp [AOp.isBox] at hb; done) | skip
  rename_i hs hd; subst hd; intro t ht; cases ht
section
variable {bx : List Nat} {N : Nat} {C0 : Cx} {w0 : World} {L : Nat → Prop} {C C' : Cx} {β : Nat → Nat} {fr fr' : Fr} {G G' : AG} {a : Act} {w w' : World}
variable {call : CallF} {mt : Nat → Nat → Option Nat} {ops : Array Oper} {Q : Exit → Act → World → Prop}

theorem evD_eq {j : Nat} {d : Option Nat} {g g' : Option (Nat × Bool)} {o : AOp} : evD call mt ⟨j, d, g, o⟩ fr G = evD call mt ⟨j, d, g', o⟩ fr G := by cases o <;> rfl
theorem St.yield (h : St M bx N C0 w0 L C β fr G a w) {s jj : Nat} {og : Oper} (h1 : ops[jj]? = some og) (h2 : og.dst = some s) :
    (∀ b, fr s = .bool b → yielded ops a.tmps jj = some b) ∧ (fr s = .tuple [] → yielded ops a.tmps jj = none) := by
  have hs := h.slot s
  constructor
  · intro b hb
    rw [hb] at hs
    have hv := vr_bool (show VR M C (.bool b) (a.tmps.getD s undef) from hs)
    have hlt : s < a.tmps.size := by
      rcases Nat.lt_or_ge s a.tmps.size with h3 | h3
      · exact h3
      · simp [Array.getD, Nat.not_lt.2 h3, undef] at hv
    have : a.tmps[s]? = some (.bool b) := by
      rw [Array.getElem?_eq_getElem hlt]
      simp [Array.getD, hlt] at hv
      rw [hv]
    simp [yielded, h1, h2, this]
  · intro hb
    rw [hb] at hs
    obtain ⟨arr, hv, hl, _⟩ := vr_tuple (show VR M C (.tuple []) (a.tmps.getD s undef) from hs)
    simp only [yielded, h1, h2, Option.bind_some]
    cases hg : a.tmps[s]? with
    | none => rfl
    | some v =>
      have : a.tmps.getD s undef = v := by simp [hg]
      rw [this] at hv
      rw [hv]
theorem step_ok (hc : CallOK M call) (hf : FnsOk M) (hmt : MtOK M mt) (h : St M bx N C0 w0 L C β fr G a w) {i : AI} {o : Oper} (hi : OpI M bx N ops i o) (he : evI call mt i fr G = some (fr', G')) {K : Act → World → Prop}
    (hK : ∀ C' β' a' w', St M bx N C0 w0 L C' β' fr' G' a' w' → K a' w') : wpOp M.P ops Q i.j K a w := by
  obtain ⟨j, d, g, op⟩ := i
  obtain ⟨hat, hdst, hop, hg, hbx⟩ := hi
  have hat' : ops[j]? = some o := hat
  have hdst' : d = o.dst := hdst
  subst hdst'
  have hgo : evD call mt ⟨j, o.dst, g, op⟩ fr G = some (fr', G') → o.wp M.P a w K Q := by
    intro hd
    rw [evD_eq (g' := none)] at hd
    have := op_ok (j := j) (ty := o.type) (pos := o.pos) (after := o.after) (guard := o.guard) hc hf hmt h hop hd
    exact this K Q (fun C' β' w' V hst => hK C' β' _ w' hst)
  have hskip : op.isBox = false → (some (put fr o.dst (.tuple []), G) : Option (Fr × AG)) = some (fr', G') → K (a.put o.dst undef) w := by
    intro hb he
    injection he with he; injection he with e1 e2
    subst e1 e2
    refine hK C β _ w (h.put (hop.dst hb) ?_)
    exact evR_of_VR (.tuple [] #[] rfl (by simp))
  unfold wpOp
  simp only [hat']
  unfold evI at he
  cases hgd : g with
  | none =>
    subst hgd
    simp only at he
    have hgn : o.guard = none := by
      have hg' : GrdOk ops none o.guard := hg
      generalize o.guard = og at hg'
      cases hg'
      rfl
    have : Region.wanted o (yielded ops a.tmps) = true := by simp [Region.wanted, hgn]
    rw [if_pos this]
    exact .inl (hgo he)
  | some sw =>
    obtain ⟨s, w'⟩ := sw
    subst hgd
    simp only at he
    have hg' : GrdOk ops (some (s, w')) o.guard := hg
    have hnb : op.isBox = false := by
      cases hb : op.isBox with
      | false => rfl
      | true => have := hbx hb; cases this
    generalize hgg : o.guard = og at hg'
    cases hg' with
    | some _ _ jj og h1 h2 =>
      obtain ⟨hy1, hy2⟩ := h.yield h1 h2
      split at he
      · rename_i b hb
        have hy := hy1 b hb
        split at he
        · rename_i hw
          have : Region.wanted o (yielded ops a.tmps) = true := by simp [Region.wanted, hgg, hy, hw]
          rw [if_pos this]
          exact .inl (hgo he)
        · rename_i hw
          have : ¬ Region.wanted o (yielded ops a.tmps) = true := by simp [Region.wanted, hgg, hy, hw]
          rw [if_neg this]
          exact hskip hnb he
      · rename_i hb
        have hy := hy2 hb
        have : ¬ Region.wanted o (yielded ops a.tmps) = true := by simp [Region.wanted, hgg, hy]
        rw [if_neg this]
        exact hskip hnb he
      · cases he

/-- What is shown of every way on is so. -/
theorem wp_holds {P : Program} {o : Oper} {X : Prop} (h : o.wp P a w (fun _ _ => X) (fun _ _ _ => False)) : X := by
  unfold Oper.wp at h
  cases hr : (execOp a.eval o).run P w with
  | ok n w' =>
    rw [hr] at h
    cases n <;> simp only [Oper.upon] at h <;> first
      | exact h
      | (obtain ⟨e, w'', fr, hR, _⟩ := h []
         cases e with
         | returned v => exact hR
         | panicked c => exact hR.elim
         | outgrown => obtain ⟨_, _, hh⟩ := hR; exact hh.elim)
      | (obtain ⟨v, w'', hR, _⟩ := h default []; exact hR)
      | exact h.elim
  | halt x w' =>
    rw [hr] at h
    cases x <;> simp only [Oper.upon] at h
theorem wpOp_holds {P : Program} {j : Nat} {X : Prop} (h : wpOp P ops (fun _ _ _ => False) j (fun _ _ => X) a w) : X := by
  unfold wpOp at h
  split at h
  · exact h
  · split at h
    · rcases h with h | ⟨_, _, _, h⟩
      · exact wp_holds h
      · exact h.elim
    · exact h
/-- Some world has this frame and this heap. -/
def Rch (M : SM) (bx : List Nat) (N : Nat) (C0 : Cx) (w0 : World) (L : Nat → Prop) (s : S2) : Prop := ∃ C β a w, St M bx N C0 w0 L C β s.1 s.2 a w
theorem Rch.ppf {s : S2} (h : Rch M bx N C0 w0 L s) : PPf bx s.1 := by
  obtain ⟨C, β, a, w, h⟩ := h
  exact ⟨h.pp, fun n cs hn => (h.box n cs hn).1⟩
theorem Rch.step (hc : CallOK M call) (hf : FnsOk M) (hmt : MtOK M mt) {i : AI} {o : Oper} (hi : OpI M bx N ops i o) {s s' : S2} (h : Rch M bx N C0 w0 L s) (he : evI call mt i s.1 s.2 = some s') : Rch M bx N C0 w0 L s' := by
  obtain ⟨C, β, a, w, h⟩ := h
  exact wpOp_holds (step_ok (Q := fun _ _ _ => False) (K := fun _ _ => Rch M bx N C0 w0 L s') hc hf hmt h hi (show evI call mt i s.1 s.2 = some (s'.1, s'.2) from he) (fun C' β' a' w' hst => ⟨C', β', a', w', hst⟩))

theorem seq_ok (hc : CallOK M call) (hf : FnsOk M) (hmt : MtOK M mt) : ∀ (is : List AI) (fr : Fr) (G : AG) (C : Cx) (β : Nat → Nat) (a : Act) (w : World) (s : S2), (∀ i ∈ is, ∃ o, OpI M bx N ops i o) → St M bx N C0 w0 L C β fr G a w → evIs call mt is fr G = some s →
    (∀ C' β' a' w', St M bx N C0 w0 L C' β' s.1 s.2 a' w' → Q .normal a' w') → wpOps M.P ops Q (is.map (·.j)) a w := by
  intro is
  induction is with
  | nil => intro fr G C β a w s _ h he hQ; injection he with he; subst he; exact hQ C β a w h
  | cons i is ih =>
    intro fr G C β a w s hi h he hQ
    simp only [evIs, Option.bind_eq_some_iff] at he
    obtain ⟨⟨fr1, G1⟩, h1, h2⟩ := he
    rw [List.map_cons, wpOps_cons]
    obtain ⟨o, ho⟩ := hi i (List.mem_cons_self ..)
    exact step_ok hc hf hmt h ho h1 (fun C' β' a' w' hst => ih fr1 G1 C' β' a' w' s (fun b hb => hi b (List.mem_cons_of_mem _ hb)) hst h2 hQ)

def Dir (ops : Array Oper) (i k : Nat) : Prop := ∃ o, ops[i]? = some o ∧ ∃ e ∈ o.after, Region.binds .any e = true ∧ e.on = k
inductive Deps (ops : Array Oper) : Nat → Nat → Prop
  | one (i k) (h : Dir ops i k) : Deps ops i k
  | step (i k l) (h : Dir ops i k) (h' : Deps ops k l) : Deps ops i l
structure DrawnOk (M : SM) (bx : List Nat) (N : Nat) (ops : Array Oper) (gs : List Grp) : Prop where
  opi : ∀ g ∈ gs, ∃ o, OpI M bx N ops g.1 o
  okg : ∀ g ∈ gs, Okg bx g.1 ∧ (g.1.op.simple = true → g.2 = []) ∧ ∀ a ∈ g.2, Gh a
  len : gs.length = ops.size
  all : ∀ i < ops.size, ∃ g ∈ gs, g.1.j = i
  nodup : gs.Pairwise fun x y => x.1.j ≠ y.1.j
  topo : gs.Pairwise fun x y => ¬ Dir ops x.1.j y.1.j
  self : ∀ g ∈ gs, ¬ Dir ops g.1.j g.1.j
  inn : ∀ i k, Dir ops i k → k < ops.size
  pair : gs.Pairwise fun x y => Deps ops y.1.j x.1.j ∨ (Sw x.1 y.1 ∧ (∀ a ∈ x.2, ∀ t, y.1.dst = some t → OffS a t) ∧ (x.1.op.mem = true → y.1.op.simple = false → ∀ t, x.1.dst = some t → againOf x.1 t ∈ y.2))
  pair2 : gs.Pairwise fun m q => m.1.op.mem = true → q.1.op.simple = true → ∀ t, q.1.dst = some t → OffS m.1 t
theorem deps_listed {listed : Array Bool} (hcl : ∀ i k, i < ops.size → listed.getD i false = true → Dir ops i k → listed.getD k false = true) (hin : ∀ i k, Dir ops i k → k < ops.size) {i k : Nat} (h : Deps ops i k) :
    (∀ k', Dir ops i k' → listed.getD k' false = true) → listed.getD k false = true := by
  induction h with
  | one i k h => exact fun hi => hi k h
  | step i k l h h' ih => exact fun hi => ih (fun k' hk' => hcl k k' (hin i k h) (hi k h) hk')
theorem ready_mem {listed : Array Bool} {i : Nat} : i ∈ Region.ready .any ops listed ↔ i < ops.size ∧ listed.getD i true = false ∧ ∀ k, Dir ops i k → listed.getD k false = true := by
  unfold Region.ready
  rw [List.mem_filter, List.mem_range]
  constructor
  · rintro ⟨h1, h2⟩
    simp only [Bool.and_eq_true, Bool.not_eq_true'] at h2
    refine ⟨h1, h2.1, ?_⟩
    rintro k ⟨o, ho, e, he, hb, rfl⟩
    have h3 := h2.2
    rw [ho] at h3
    simp only [Option.map_some, Option.getD_some, Array.all_eq_true'] at h3
    have := h3 e he
    simpa [hb] using this
  · rintro ⟨h1, h2, h3⟩
    refine ⟨h1, ?_⟩
    simp only [Bool.and_eq_true, Bool.not_eq_true']
    refine ⟨h2, ?_⟩
    have ho : ops[i]? = some ops[i] := Array.getElem?_eq_getElem h1
    rw [ho]
    simp only [Option.map_some, Option.getD_some, Array.all_eq_true']
    intro e he
    cases hb : Region.binds .any e with
    | false => rfl
    | true => simpa using h3 e.on ⟨_, ho, e, he, hb, rfl⟩
theorem getD_two {listed : Array Bool} {i : Nat} (h : i < listed.size) : listed.getD i true = listed.getD i false := by simp [Array.getD, h]
theorem any_ok (hc : CallOK M call) (hf : FnsOk M) (hmt : MtOK M mt) {gs : List Grp} (hd : DrawnOk M bx N ops gs) {sf : S2} (hQ : ∀ C' β' a' w', St M bx N C0 w0 L C' β' sf.1 sf.2 a' w' → Q .normal a' w') :
    ∀ (n : Nat) (rem : List Grp) (listed : Array Bool) (s : S2) (C : Cx) (β : Nat → Nat) (a : Act) (w : World), rem.length = n → rem.Sublist gs → listed.size = ops.size →
      (∀ i, i < ops.size → (listed.getD i true = false ↔ ∃ g ∈ rem, g.1.j = i)) → (∀ i k, i < ops.size → listed.getD i false = true → Dir ops i k → listed.getD k false = true) →
      St M bx N C0 w0 L C β s.1 s.2 a w → evL call mt rem s = some sf → wpAny M.P .any ops Q n listed a w := by
  intro n
  induction n with
  | zero =>
    intro rem listed s C β a w hl hsub hsz hls hcl h he
    have : rem = [] := List.length_eq_zero_iff.1 hl
    subst this
    injection he with he
    subst he
    refine ⟨?_, hQ C β a w h⟩
    apply List.eq_nil_iff_forall_not_mem.2
    intro i hi
    obtain ⟨h1, h2, _⟩ := ready_mem.1 hi
    obtain ⟨g, hg, _⟩ := (hls i h1).1 h2
    cases hg
  | succ n ih =>
    intro rem listed s C β a w hl hsub hsz hls hcl h he
    refine ⟨fun hnil => ?_, fun i hi => ?_⟩
    · exfalso
      cases rem with
      | nil => simp at hl
      | cons g0 rest =>
        have hg0 : g0 ∈ gs := hsub.subset (List.mem_cons_self ..)
        obtain ⟨o, ho⟩ := hd.opi g0 hg0
        have hlt : g0.1.j < ops.size := (Array.getElem?_eq_some_iff.1 ho.at_).1
        have hmem : g0.1.j ∈ Region.ready .any ops listed := by
          refine ready_mem.2 ⟨hlt, (hls _ hlt).2 ⟨g0, List.mem_cons_self .., rfl⟩, fun k hk => ?_⟩
          have hk' := hd.inn _ k hk
          rw [← getD_two (by rw [hsz]; exact hk')]
          cases hkl : listed.getD k true with
          | true => rfl
          | false =>
            exfalso
            obtain ⟨g, hg, rfl⟩ := (hls k hk').1 hkl
            rcases List.mem_cons.1 hg with rfl | hg
            · exact hd.self _ hg0 hk
            · exact (List.pairwise_cons.1 (hd.topo.sublist hsub)).1 g hg hk
        rw [hnil] at hmem
        cases hmem
    · obtain ⟨hilt, hil, hdir⟩ := ready_mem.1 hi
      obtain ⟨g, hg, rfl⟩ := (hls i hilt).1 hil
      obtain ⟨pre, post, rfl⟩ := List.append_of_mem hg
      have hggs : g ∈ gs := hsub.subset hg
      obtain ⟨o, ho⟩ := hd.opi g hggs
      have hpre : ∀ m ∈ pre, m ∈ gs := fun m hm => hsub.subset (List.mem_append_left _ hm)
      have hpr := (List.pairwise_append.1 (hd.pair.sublist hsub)).2.2
      have hsw : ∀ m ∈ pre, Sw m.1 g.1 ∧ (∀ a ∈ m.2, ∀ t, g.1.dst = some t → OffS a t) ∧ (m.1.op.mem = true → g.1.op.simple = false → ∀ t, m.1.dst = some t → againOf m.1 t ∈ g.2) := by
        intro m hm
        rcases hpr m hm g (List.mem_cons_self ..) with h1 | h1
        · exfalso
          have h2 := deps_listed hcl hd.inn h1 hdir
          obtain ⟨om, hom⟩ := hd.opi m (hpre m hm)
          have hmlt : m.1.j < ops.size := (Array.getElem?_eq_some_iff.1 hom.at_).1
          have h3 := (hls m.1.j hmlt).2 ⟨m, List.mem_append_left _ hm, rfl⟩
          rw [getD_two (by rw [hsz]; exact hmlt)] at h3
          rw [h3] at h2
          cases h2
        · exact h1
      have hbub : Bub bx (Rch M bx N C0 w0 L) call mt pre g.1 := by
        refine ⟨(hd.okg g hggs).1, fun m hm => hd.okg m (hpre m hm), fun m hm => ⟨(hsw m hm).1, (hsw m hm).2.1⟩, (List.pairwise_append.1 (hd.pair2.sublist hsub)).1, fun s hs => hs.ppf, fun m hm s s' hs hes => ?_, fun s s' hs hes => hs.step hc hf hmt ho hes⟩
        obtain ⟨om, hom⟩ := hd.opi m (hpre m hm)
        exact hs.step hc hf hmt hom hes
      rw [evL_append] at he
      simp only [Option.bind_eq_some_iff] at he
      obtain ⟨s1, h1, he⟩ := he
      simp only [evL, Option.bind_eq_some_iff] at he
      obtain ⟨s2, h2, h3⟩ := he
      obtain ⟨h2a, h2b⟩ := evP_some.1 h2
      obtain ⟨s', h4, h5⟩ := bubble pre.length pre s s1 s2 rfl hbub h1 h2a (fun hp m hm hmm t ht => h2b _ ((hsw m hm).2.2 hmm hp t ht)) ⟨C, β, a, w, h⟩
      have hgsz : g.1.j < listed.size := by rw [hsz]; exact hilt
      have hset : ∀ (k : Nat) (d : Bool), (listed.setIfInBounds g.1.j true).getD k d = if k = g.1.j then true else listed.getD k d := by
        intro k d
        by_cases e : k = g.1.j
        · subst e; simp [Array.getD, hgsz]
        · simp [Array.getD_eq_getD_getElem?, Array.getElem?_setIfInBounds, Ne.symm e, e]
      have hnd := List.pairwise_append.1 (hd.nodup.sublist hsub)
      refine step_ok hc hf hmt h ho (show evI call mt g.1 s.1 s.2 = some (s'.1, s'.2) from h4) (fun C' β' a' w' hst => ih (pre ++ post) _ s' C' β' a' w' ?_ ?_ ?_ ?_ ?_ hst ?_)
      · simp at hl ⊢; omega
      · exact ((List.Sublist.refl pre).append (List.sublist_cons_self g post)).trans hsub
      · simp [hsz]
      · intro k hk
        rw [hset]
        by_cases e : k = g.1.j
        · subst e
          simp only [if_true, Bool.true_eq_false, false_iff]
          rintro ⟨m, hm, hmj⟩
          rcases List.mem_append.1 hm with hm | hm
          · exact hnd.2.2 m hm g (List.mem_cons_self ..) hmj
          · exact (List.pairwise_cons.1 hnd.2.1).1 m hm hmj.symm
        · rw [if_neg e, hls k hk]
          constructor
          · rintro ⟨m, hm, hmj⟩
            refine ⟨m, ?_, hmj⟩
            rcases List.mem_append.1 hm with hm | hm
            · exact List.mem_append_left _ hm
            · rcases List.mem_cons.1 hm with rfl | hm
              · exact absurd hmj.symm e
              · exact List.mem_append_right _ hm
          · rintro ⟨m, hm, hmj⟩
            refine ⟨m, ?_, hmj⟩
            rcases List.mem_append.1 hm with hm | hm
            · exact List.mem_append_left _ hm
            · exact List.mem_append_right _ (List.mem_cons_of_mem _ hm)
      · intro i' k hi' hil' hdk
        rw [hset] at hil' ⊢
        by_cases ek : k = g.1.j
        · rw [if_pos ek]
        · rw [if_neg ek]
          by_cases e : i' = g.1.j
          · subst e; exact hdir k hdk
          · rw [if_neg e] at hil'; exact hcl i' k hi' hil' hdk
      · rw [evL_append, h5]; exact h3
end
end Go.Ai
set_option linter.unusedVariables false
set_option linter.unusedSimpArgs false
namespace Go.Ai
variable {M : SM}

def Frees (bx : List Nat) (fs : List AI) : Prop := ∀ f ∈ fs, ∃ t, f = ⟨0, none, none, .free t⟩ ∨ (t ∉ bx ∧ f = ⟨0, some t, none, .fz t⟩) ∨ ∃ c, f = ⟨0, none, none, .fzb t c⟩
inductive CodeP (M : SM) (bx : List Nat) (N : Nat) : AC → Code → Prop
  | skip : CodeP M bx N .skip .skip
  | ret : CodeP M bx N .ret .ret
  | exit (id) : CodeP M bx N (.exit id) (.exit id)
  | seq (a b A B) (h : CodeP M bx N a A) (k : CodeP M bx N b B) : CodeP M bx N (.seq a b) (.seq A B)
  | cond (c a b X A B) (hc : OpR M c X) (h : CodeP M bx N a A) (k : CodeP M bx N b B) : CodeP M bx N (.cond c a b) (.cond X A B)
  | dist (r c a k b k' R X A B K) (hr : CodeP M bx N r R) (hc : OpR M c X) (h : CodeP M bx N a A) (hk : CodeP M bx N k K) (h' : CodeP M bx N b B) (hk' : CodeP M bx N k' K) : CodeP M bx N (.seq r (.cond c (.seq a k) (.seq b k'))) (.seq (.seq R (.cond X A B)) K)
  | block (id a A) (h : CodeP M bx N a A) : CodeP M bx N (.block id a) (.block id A)
  | loop (a A) (h : CodeP M bx N a A) : CodeP M bx N (.loop a) (.loop A)
  | reg (is fs ks id ops) (hi : ∀ i ∈ is, ∃ o, OpI M bx N ops i o) (hj : is.map (·.j) = List.range ops.size) (hf : Frees bx fs) : CodeP M bx N (.reg (is ++ fs) ks) (.region id ops false)
  | drawn (gs fs ks id ops) (hd : DrawnOk M bx N ops gs) (hf : Frees bx fs) : CodeP M bx N (.reg (flat gs ++ fs) ks) (.region id ops true)
def exO : Ex → Exit
  | .normal => .normal
  | .ret => .ret
  | .exit id => .exit id

section
variable {bx : List Nat} {N : Nat} {C0 : Cx} {w0 : World} {L : Nat → Prop} {C C' : Cx} {β : Nat → Nat} {fr fr' : Fr} {G G' : AG} {a : Act} {w w' : World}
variable {call : CallF} {mt : Nat → Nat → Option Nat} {ops : Array Oper} {Q : Exit → Act → World → Prop}

theorem kp_at (t : Nat) (fr : Fr) : ∀ ks : List Nat, kp ks fr t = if t ∈ ks then kv (fr t) else .undef := by
  intro ks
  induction ks with
  | nil => rfl
  | cons d ds ih =>
    simp only [kp, upd]
    by_cases h : t = d
    · rw [if_pos h, if_pos (by rw [h]; exact List.mem_cons_self ..), h]
    · rw [if_neg h, ih]
      by_cases h2 : t ∈ ds
      · rw [if_pos h2, if_pos (List.mem_cons_of_mem _ h2)]
      · rw [if_neg h2, if_neg (fun hm => (List.mem_cons.1 hm).elim h h2)]
theorem kp_cases (ks : List Nat) (fr : Fr) (t : Nat) : kp ks fr t = .undef ∨ (kp ks fr t = fr t ∧ ∀ d c, fr t ≠ .pptr d c) := by
  rw [kp_at]
  split
  · cases h : fr t <;> first | (right; exact ⟨rfl, by simp⟩) | (left; rfl)
  · exact .inl rfl
theorem St.keep (h : St M bx N C0 w0 L C β fr G a w) (ks : List Nat) : St M bx N C0 w0 L C β (kp ks fr) G a w := by
  refine ⟨h.le, h.un, h.gr, h.mine, h.size, h.defers, fun t => ?_, fun t cs ht => ?_, fun t t' cs cs' ht ht' => ?_, fun t d c ht => ?_, h.ims⟩
  · rcases kp_cases ks fr t with e | ⟨e, _⟩
    · rw [e]; trivial
    · rw [e]; exact h.slot t
  · rcases kp_cases ks fr t with e | ⟨e, _⟩
    · rw [e] at ht; cases ht
    · rw [e] at ht; exact h.box t cs ht
  · rcases kp_cases ks fr t with e | ⟨e, _⟩
    · rw [e] at ht; cases ht
    · rcases kp_cases ks fr t' with e' | ⟨e', _⟩
      · rw [e'] at ht'; cases ht'
      · rw [e] at ht; rw [e'] at ht'; exact h.apart t t' cs cs' ht ht'
  · rcases kp_cases ks fr t with e | ⟨e, hn⟩
    · rw [e] at ht; cases ht
    · rw [e] at ht; exact absurd ht (hn d c)
theorem slotR_of {C : Cx} {β : Nat → Nat} {t : Nat} {v : AVal} {V : Value} (h : VR M C v V) : SlotR M C β t v V := by
  cases h <;> first | exact .int .. | exact .bool .. | exact .str .. | exact .nilp | exact .ptr _ _ _ ‹_› | exact .nils _ | exact .nilf | exact .nili | skip
  · exact .slice _ _ _ _ _ ‹_› ‹_› ‹_›
  · exact .list _ _ _ _ _ _ ‹_› ‹_› ‹_› ‹_› ‹_› ‹_›
  · exact .iptr _ _ _ _ _ _ ‹_› ‹_› ‹_› ‹_›
  · exact .func _ _ _ _ ‹_› ‹_› ‹_›
  · exact .iface _ _ _ _ ‹_› ‹_›
  · exact .agg _ _ ‹_› ‹_› ‹_›
  · exact .tuple _ _ ‹_› ‹_›
  · exact .meth _ _ _ _ ‹_›
  · exact .anyb _
/-- A list's object becomes read only. -/
theorem St.fz1 (h : St M bx N C0 w0 L C β fr G a w) {id off len : Nat} {es : Obj'} (hes : G.obj id = some es) (hfit : off + len ≤ es.length) : ∃ C', St M bx N C0 w0 L C' β fr ⟨G.next, updO G.obj id none⟩ a w ∧ C.le C' ∧ ∀ V, VR M C (.slice id off len) V → VR M C' (.list ((es.drop off).take len)) V := by
  obtain ⟨hlt, cur, et, hblk, ho⟩ := h.gr.ob id es hes
  have hle : C.le (immC C (C.io id).blk cur) := ⟨Nat.le_refl _, fun _ _ => rfl, fun b x hb => by
    simp only [immC]
    rw [if_neg]; exact hb
    rintro rfl
    exact (h.gr.im _ x hb).2 id es hes rfl⟩
  have hst : St M bx N C0 w0 L (immC C (C.io id).blk cur) β fr ⟨G.next, updO G.obj id none⟩ a w := by
    have hd := h.gr.del id
    refine h.step hle ⟨h.gr.n, fun i e hi => ?_, hd.inj, fun b x hb => ?_⟩ (Un.refl w _) (fun b hb => .inl (live_del hb)) (fun b x hb => ?_)
    · obtain ⟨h1, c1, t1, h2, h3⟩ := hd.ob i e hi
      exact ⟨h1, c1, t1, h2, h3.mono hle⟩
    · simp only [immC] at hb
      split at hb
      · rename_i e
        injection hb with hb
        subst hb e
        refine ⟨⟨et, _, hblk⟩, fun i e hi => ?_⟩
        simp only [updO] at hi
        split at hi
        · cases hi
        · rename_i hne
          exact h.gr.inj i id e es hi hes hne
      · exact hd.im b x hb
    · simp only [immC] at hb
      split at hb
      · rename_i e
        subst e
        exact .inr (.inl ⟨id, es, hes, rfl⟩)
      · exact .inl hb
  refine ⟨_, hst, hle, fun V hV => ?_⟩
  obtain ⟨cap, A, hA, hid, hlc, ha⟩ := vr_slice hV
  have hat : ∀ p, (immC C (C.io id).blk cur).at (C.io id).blk p = cur[p]? := fun p => by simp [Cx.at, immC]
  have hpos : ∀ i c : Nat, off * (C.io id).esz + (i * (C.io id).esz + c) = (off + i) * (C.io id).esz + c := by intro i c; rw [Nat.add_mul]; omega
  have key : ∀ (i : Nat) e, ((es.drop off).take len)[i]? = some e → es[off + i]? = some e := by
    intro i e he
    rw [List.getElem?_take] at he
    split at he
    · rw [List.getElem?_drop] at he; exact he
    · cases he
  have hli : LiR M (immC C (C.io id).blk cur) ((es.drop off).take len) (C.io id).esz (C.io id).blk (off * (C.io id).esz) := by
    refine ⟨ho.pos, fun e he => ?_, fun i e c he hc => ?_, fun i e c x y he hx hy => ?_⟩
    · obtain ⟨i, hi, rfl⟩ := List.getElem_of_mem he
      exact (ho.el _ _ (key i _ (List.getElem?_eq_getElem hi))).1
    · obtain ⟨h1, h2⟩ := ho.el _ e (key i e he)
      have hc' : c < e.length := by rw [h1]; exact hc
      obtain ⟨y, hy, hr⟩ := h2.get (List.getElem?_eq_getElem hc')
      exact ⟨y, by rw [hat, hpos]; exact hy, hr.one⟩
    · obtain ⟨h1, h2⟩ := ho.el _ e (key i e he)
      rw [hat, hpos] at hy
      exact (h2.at_ c x y hx hy).v.mono hle
  have hlen : ((es.drop off).take len).length = len := by simp; omega
  rw [hA]
  rcases ha with ⟨rfl, _⟩ | hc
  · have := hli.list (A := some ⟨(C.io id).blk, off * (C.io id).esz, none⟩) (cap := cap) (by omega) (fun _ => rfl)
    rw [hlen] at this; exact this
  · have h0 : (es.drop off).take len = [] := List.length_eq_zero_iff.1 (by omega)
    have := hli.list (A := some A) (cap := cap) (by omega) (fun hne => absurd h0 hne)
    rw [hlen] at this; exact this
theorem vr_nils_list {C : Cx} {V : Value} (h : VR M C .nils V) : VR M C (.list []) V := by
  obtain ⟨A, hA⟩ := vr_nils h
  rw [hA]
  have : LiR M C [] 1 0 0 := ⟨Nat.one_pos, by simp, by simp, by simp⟩
  exact this.list (cap := 0) (Nat.le_refl _) (by simp)
/-- What is owned becomes read only. -/
theorem St.fzn (h : St M bx N C0 w0 L C β fr G a w) {t : Nat} (ht : t ∉ bx) {v : AVal} {G1 : AG} (he : evOp call mt fr G (.fz t) = some (v, G1)) : ∃ C', St M bx N C0 w0 L C' β (upd fr t v) G1 a w := by
  have slot : ∀ {C1 : Cx}, St M bx N C0 w0 L C1 β fr G1 a w → VR M C1 v (a.tmps.getD t undef) → (∀ d c, v ≠ .pptr d c) → (∀ cs, v ≠ .pbox cs) → v ≠ .undef → St M bx N C0 w0 L C1 β (upd fr t v) G1 a w := by
    intro C1 hst hv n1 n2 n3
    refine ⟨hst.le, hst.un, hst.gr, hst.mine, hst.size, hst.defers, fun s => ?_, fun s cs hs => ?_, fun s s' cs cs' hs hs' => ?_, fun s d c hs => ?_, hst.ims⟩
    · simp only [upd]
      split
      · rename_i e; subst e; exact slotR_of hv
      · exact hst.slot s
    · simp only [upd] at hs
      split at hs
      · exact absurd hs (n2 cs)
      · exact hst.box s cs hs
    · simp only [upd] at hs hs'
      split at hs
      · exact absurd hs (n2 cs)
      · split at hs'
        · exact absurd hs' (n2 cs')
        · exact hst.apart s s' cs cs' hs hs'
    · simp only [upd] at hs ⊢
      split at hs
      · exact absurd hs (n1 d c)
      · obtain ⟨h1, h2⟩ := hst.pp s d c hs
        refine ⟨h1, ?_⟩
        split
        · exact n3
        · exact h2
  have hs := h.slot t
  simp only [evOp] at he
  cases hft : fr t <;> rw [hft] at he hs <;> simp only [pv] at he <;> try (cases he; done)
  case nils =>
    injection he with he; injection he with e1 e2
    subst e1 e2
    exact ⟨C, slot h (vr_nils_list (show VR M C .nils (a.tmps.getD t undef) from hs)) (by simp) (by simp) (by simp)⟩
  case slice id off len =>
    simp only [Option.bind_eq_some_iff] at he
    obtain ⟨es, hes, he⟩ := he
    split at he
    rotate_left
    · cases he
    rename_i hfit
    injection he with he; injection he with e1 e2
    subst e1 e2
    obtain ⟨C', hst, hle, hv⟩ := h.fz1 hes hfit
    exact ⟨_, slot hst (hv _ (show VR M C (.slice id off len) (a.tmps.getD t undef) from hs)) (by simp) (by simp) (by simp)⟩
/-- A cell of a struct variable becomes read only. -/
theorem St.fzb (h : St M bx N C0 w0 L C β fr G a w) {t c : Nat} {s1 : S2} (he : evD call mt ⟨0, none, none, .fzb t c⟩ fr G = some s1) : ∃ C', St M bx N C0 w0 L C' β s1.1 s1.2 a w := by
  have slot : ∀ {C1 : Cx} {G1 : AG} {cs : List AVal} {u v : AVal}, St M bx N C0 w0 L C1 β fr G1 a w → C.le C1 → fr t = .pbox cs → cs[c]? = some u → (∀ V, VR M C u V → VR M C1 v V) → St M bx N C0 w0 L C1 β (upd fr t (.pbox (splice cs c [v]))) G1 a w := by
    intro C1 G1 cs u v hst hle hb hu hv
    have hc := (List.getElem?_eq_some_iff.1 hu).1
    have key : ∀ s cs2, upd fr t (.pbox (splice cs c [v])) s = .pbox cs2 → ∃ cs1, fr s = .pbox cs1 ∧ ((s = t ∧ cs2 = splice cs c [v] ∧ cs1 = cs) ∨ (s ≠ t ∧ cs2 = cs1)) := by
      intro s cs2 hs
      simp only [upd] at hs
      split at hs
      · rename_i e; subst e; injection hs with hs; exact ⟨cs, hb, .inl ⟨rfl, hs.symm, rfl⟩⟩
      · rename_i e; exact ⟨cs2, hs, .inr ⟨e, rfl⟩⟩
    refine ⟨hst.le, hst.un, hst.gr, hst.mine, hst.size, hst.defers, fun s => ?_, fun s cs2 hs => ?_, fun s s' cs2 cs2' hs hs' => ?_, fun s d c' hs => ?_, hst.ims⟩
    · simp only [upd]
      split
      · rename_i e; subst e
        have := hst.slot s
        rw [hb] at this
        exact this
      · exact hst.slot s
    · obtain ⟨cs1, h1, h2⟩ := key s cs2 hs
      rcases h2 with ⟨rfl, rfl, rfl⟩ | ⟨_, rfl⟩
      rotate_left
      · exact hst.box s _ h1
      obtain ⟨b1, b2, ⟨cur, ty, b3, b4, b5⟩, b6, b7⟩ := hst.box s _ hb
      obtain ⟨_, _, ⟨cur', ty', b3', _, b5'⟩, _, _⟩ := h.box s _ hb
      rw [b3] at b3'
      injection b3' with b3'
      injection b3' with e1 e2
      subst e1
      refine ⟨b1, b2, ⟨cur, ty, b3, by rw [splice_length]; exact b4, by rw [splice_length]; exact b5.fit, fun i x y hx hy => ?_⟩, b6, b7⟩
      have hi : i < cs1.length := by have := (List.getElem?_eq_some_iff.1 hx).1; rwa [splice_length] at this
      rw [splice_at _ _ _ _ hi] at hx
      split at hx
      · rename_i hic
        have : i = c := by simp at hic; omega
        subst this
        simp at hx
        subst hx
        have := b5'.at_ i u y hu hy
        exact ⟨hv y this.v, this.one⟩
      · exact b5.at_ i x y hx hy
    · obtain ⟨x1, h1, _⟩ := key s cs2 hs
      obtain ⟨x2, h2, _⟩ := key s' cs2' hs'
      exact hst.apart s s' x1 x2 h1 h2
    · simp only [upd] at hs ⊢
      split at hs
      · cases hs
      · obtain ⟨h1, h2⟩ := hst.pp s d c' hs
        refine ⟨h1, ?_⟩
        split
        · simp
        · exact h2
  simp only [evD] at he
  split at he
  rotate_left
  · cases he
  rename_i cs hb
  split at he
  · rename_i hu
    injection he with he
    subst he
    exact ⟨C, slot h (Cx.le.refl C) hb hu (fun V hV => vr_nils_list hV)⟩
  · rename_i id off len hu
    simp only [Option.bind_eq_some_iff] at he
    obtain ⟨es, hes, he⟩ := he
    split at he
    rotate_left
    · cases he
    rename_i hfit
    injection he with he
    subst he
    obtain ⟨C', hst, hle, hv⟩ := h.fz1 hes hfit
    exact ⟨C', slot hst hle hb hu hv⟩
  · cases he
theorem St.frees : ∀ (fs : List AI) (fr : Fr) (G : AG) (C : Cx) (s : S2), Frees bx fs → St M bx N C0 w0 L C β fr G a w → evIs call mt fs fr G = some s → ∃ C', St M bx N C0 w0 L C' β s.1 s.2 a w := by
  intro fs
  induction fs with
  | nil => intro fr G C s _ h he; injection he with he; subst he; exact ⟨C, h⟩
  | cons f fs ih =>
    intro fr G C s hf h he
    simp only [evIs, Option.bind_eq_some_iff] at he
    obtain ⟨s1, h1, h2⟩ := he
    obtain ⟨t, hft⟩ := hf f (List.mem_cons_self ..)
    have key : ∃ C', St M bx N C0 w0 L C' β s1.1 s1.2 a w := by
      rcases hft with rfl | ⟨ht, rfl⟩ | ⟨c, rfl⟩
      · simp only [evI, evD] at h1
        split at h1
        · injection h1 with h1; subst h1; exact ⟨C, h.del _⟩
        · injection h1 with h1; subst h1; exact ⟨C, h.del _⟩
        · cases h1
      · simp only [evI, evD, Option.bind_eq_some_iff] at h1
        obtain ⟨⟨v, G1⟩, h3, h4⟩ := h1
        injection h4 with h4
        subst h4
        exact h.fzn ht h3
      · simp only [evI] at h1
        exact h.fzb h1
    obtain ⟨C1, key⟩ := key
    exact ih s1.1 s1.2 C1 s (fun g hg => hf g (List.mem_cons_of_mem _ hg)) key h2

/-- One region. -/
theorem reg_done {is fs : List AI} {ks : List Nat} {r : St3} (hf : Frees bx fs) {fuel : Nat} (he : evC call mt fuel (.reg (is ++ fs) ks) fr G = some r) :
    ∃ s, evIs call mt is fr G = some s ∧ ((∀ C' β' a' w', St M bx N C0 w0 L C' β' r.2.1 r.2.2 a' w' → Q (exO r.1) a' w') → ∀ C' β' a' w', St M bx N C0 w0 L C' β' s.1 s.2 a' w' → Q .normal a' w') := by
  simp only [evC, Option.bind_eq_some_iff] at he
  obtain ⟨s2, h1, h2⟩ := he
  rw [evIs_append] at h1
  simp only [Option.bind_eq_some_iff] at h1
  obtain ⟨s, h3, h4⟩ := h1
  injection h2 with h2
  subst h2
  refine ⟨s, h3, fun hQ C' β' a' w' hst => ?_⟩
  obtain ⟨C2, h5⟩ := St.frees fs s.1 s.2 C' s2 hf hst h4
  exact hQ C2 β' a' w' (h5.keep ks)

theorem code_ok (hc : CallOK M call) (hf : FnsOk M) (hmt : MtOK M mt) (hm : M.P.follows .mixedOrders = true) (fuel : Nat) {ac : AC} {c : Code} (hp : CodeP M bx N ac c) :
    ∀ (Q : Exit → Act → World → Prop) (fr : Fr) (G : AG) (C : Cx) (β : Nat → Nat) (a : Act) (w : World) (r : St3), St M bx N C0 w0 L C β fr G a w → evC call mt fuel ac fr G = some r →
      (∀ C' β' a' w', St M bx N C0 w0 L C' β' r.2.1 r.2.2 a' w' → Q (exO r.1) a' w') → c.wp M.P Q a w := by
  induction hp with
  | skip => intro Q fr G C β a w r h he hQ; injection he with he; subst he; exact wp_skip (hQ C β a w h)
  | ret => intro Q fr G C β a w r h he hQ; injection he with he; subst he; exact wp_ret (hQ C β a w h)
  | exit id => intro Q fr G C β a w r h he hQ; injection he with he; subst he; exact wp_exit (hQ C β a w h)
  | seq x y A B h1 h2 ih1 ih2 =>
    intro Q fr G C β a w r h he hQ
    simp only [evC, Option.bind_eq_some_iff] at he
    obtain ⟨r1, e1, e2⟩ := he
    refine wp_seq (ih1 _ fr G C β a w r1 h e1 (fun C' β' a' w' hst => ?_))
    split at e2
    · rename_i hn
      rw [hn]
      exact ih2 Q r1.2.1 r1.2.2 C' β' a' w' r hst e2 hQ
    · rename_i hn
      injection e2 with e2
      subst e2
      have := hQ C' β' a' w' hst
      cases hx : r1.1 <;> rw [hx] at this <;> first | exact this | exact absurd hx hn
  | cond c x y X A B hc h1 h2 ih1 ih2 =>
    intro Q fr G C β a w r h he hQ
    simp only [evC] at he
    have hX := h.ev hc
    generalize c.ev fr = cv at he hX
    cases cv <;> simp only at he <;> try (cases he; done)
    · rename_i t
      have hX' := vr_bool (show VR M C (.bool t) (a.eval X) from hX)
      refine wp_cond hX' ?_
      cases t with
      | true => simp only [if_true] at he ⊢; exact ih1 Q fr G C β a w r h he hQ
      | false => simp only [Bool.false_eq_true, if_false] at he ⊢; exact ih2 Q fr G C β a w r h he hQ
    · obtain ⟨t, hX'⟩ : ∃ t, a.eval X = .bool t := by
        have hv : VR M C .anyb (a.eval X) := hX
        cases hA : a.eval X <;> rw [hA] at hv <;> cases hv
        exact ⟨_, rfl⟩
      simp only [Option.bind_eq_some_iff] at he
      obtain ⟨r1, e1, s1, e2, e3⟩ := he
      split at e3
      · rename_i e
        injection e3 with e3
        subst e e3
        refine wp_cond hX' ?_
        cases t with
        | true => exact ih1 Q fr G C β a w _ h e1 hQ
        | false => exact ih2 Q fr G C β a w _ h e2 hQ
      · cases e3
  | dist x c ya k yb k' R X A B K h1 hc h2 h3 h4 h5 ih1 ih2 ih3 ih4 ih5 =>
    intro Q fr G C β a w r h he hQ
    simp only [evC, Option.bind_eq_some_iff] at he
    obtain ⟨r1, e1, e2⟩ := he
    refine wp_seq (wp_seq (ih1 _ fr G C β a w r1 h e1 (fun C' β' a' w' hst => ?_)))
    split at e2
    · rename_i hn
      rw [hn]
      show (Code.cond X A B).wp M.P (Exit.then (K.wp M.P Q) Q) a' w'
      have hX := hst.ev hc
      have part : ∀ {z q : AC} {Z : Code} {s : St3}, (∀ (Q : Exit → Act → World → Prop) (fr : Fr) (G : AG) (C : Cx) (β : Nat → Nat) (a : Act) (w : World) (r : St3), St M bx N C0 w0 L C β fr G a w → evC call mt fuel z fr G = some r → (∀ C' β' a' w', St M bx N C0 w0 L C' β' r.2.1 r.2.2 a' w' → Q (exO r.1) a' w') → Z.wp M.P Q a w) →
          (∀ (Q : Exit → Act → World → Prop) (fr : Fr) (G : AG) (C : Cx) (β : Nat → Nat) (a : Act) (w : World) (r : St3), St M bx N C0 w0 L C β fr G a w → evC call mt fuel q fr G = some r → (∀ C' β' a' w', St M bx N C0 w0 L C' β' r.2.1 r.2.2 a' w' → Q (exO r.1) a' w') → K.wp M.P Q a w) →
          ((evC call mt fuel z r1.2.1 r1.2.2).bind fun r => if r.1 = .normal then evC call mt fuel q r.2.1 r.2.2 else some r) = some r → Z.wp M.P (Exit.then (K.wp M.P Q) Q) a' w' := by
        intro z q Z s ihz ihq hz
        simp only [Option.bind_eq_some_iff] at hz
        obtain ⟨s1, f1, f2⟩ := hz
        refine ihz _ _ _ C' β' a' w' s1 hst f1 (fun C2 β2 a2 w2 hst2 => ?_)
        split at f2
        · rename_i hn2
          rw [hn2]
          exact ihq Q s1.2.1 s1.2.2 C2 β2 a2 w2 r hst2 f2 hQ
        · rename_i hn2
          injection f2 with f2
          subst f2
          have := hQ C2 β2 a2 w2 hst2
          cases hx : s1.1 <;> rw [hx] at this <;> first | exact this | exact absurd hx hn2
      generalize c.ev r1.2.1 = cv at e2 hX
      cases cv <;> simp only at e2 <;> try (cases e2; done)
      · rename_i t
        have hX' := vr_bool (show VR M C' (.bool t) (a'.eval X) from hX)
        refine wp_cond hX' ?_
        cases t with
        | true => simp only [if_true] at e2 ⊢; exact part (s := r) ih2 ih3 e2
        | false => simp only [Bool.false_eq_true, if_false] at e2 ⊢; exact part (s := r) ih4 ih5 e2
      · obtain ⟨t, hX'⟩ : ∃ t, a'.eval X = .bool t := by
          have hv : VR M C' .anyb (a'.eval X) := hX
          cases hA : a'.eval X <;> rw [hA] at hv <;> cases hv
          exact ⟨_, rfl⟩
        obtain ⟨r2, g1, e3⟩ := Option.bind_eq_some_iff.1 e2
        obtain ⟨s2, g2, g3⟩ := Option.bind_eq_some_iff.1 e3
        split at g3
        · rename_i e
          injection g3 with g3
          subst e g3
          refine wp_cond hX' ?_
          cases t with
          | true => exact part (s := r2) ih2 ih3 g1
          | false => exact part (s := r2) ih4 ih5 g2
        · cases g3
    · rename_i hn
      injection e2 with e2
      subst e2
      have := hQ C' β' a' w' hst
      cases hx : r1.1 <;> rw [hx] at this <;> first | exact this | exact absurd hx hn
  | block id x A h1 ih =>
    intro Q fr G C β a w r h he hQ
    simp only [evC, Option.bind_eq_some_iff] at he
    obtain ⟨r1, e1, e2⟩ := he
    injection e2 with e2
    subst e2
    refine wp_block (ih _ fr G C β a w r1 h e1 (fun C' β' a' w' hst => ?_))
    have := hQ C' β' a' w' hst
    cases hx : r1.1 with
    | normal => rw [hx] at this; exact this
    | ret => rw [hx] at this; exact this
    | exit id' =>
      rw [hx] at this
      simp only [Exit.inBlock, exO]
      by_cases hid : id' = id
      · subst hid; simp only [if_true] at this ⊢; exact this
      · simp only [Ex.exit.injEq, if_neg hid] at this ⊢
        first | exact this | (rw [if_neg (fun e => hid e.symm)]; exact this)
  | loop x A h1 ih =>
    intro Q fr G C β a w r h he hQ
    simp only [evC] at he
    have key : ∀ (n : Nat) (fr : Fr) (G : AG) (C : Cx) (β : Nat → Nat) (a : Act) (w : World), St M bx N C0 w0 L C β fr G a w → iter (evC call mt fuel x) n fr G = some r → Code.rounds M.P A Q n a w := by
      intro n
      induction n with
      | zero => intro fr G C β a w _ hi; cases hi
      | succ n ihn =>
        intro fr G C β a w h hi
        simp only [iter, Option.bind_eq_some_iff] at hi
        obtain ⟨r1, e1, e2⟩ := hi
        rw [rounds_succ]
        refine ih _ fr G C β a w r1 h e1 (fun C' β' a' w' hst => ?_)
        split at e2
        · rename_i hn
          rw [hn]
          exact ihn r1.2.1 r1.2.2 C' β' a' w' hst e2
        · rename_i hn
          injection e2 with e2
          subst e2
          have := hQ C' β' a' w' hst
          cases hx : r1.1 <;> rw [hx] at this <;> first | exact this | exact absurd hx hn
    exact wp_loop_rounds fuel (key fuel fr G C β a w h he)
  | reg is fs ks id ops hi hj hfs =>
    intro Q fr G C β a w r h he hQ
    obtain ⟨s, h1, h2⟩ := reg_done (M := M) (bx := bx) (N := N) (C0 := C0) (w0 := w0) (L := L) (Q := Q) hfs he
    refine wp_region ?_
    rw [← hj]
    exact seq_ok hc hf hmt is fr G C β a w s hi h h1 (h2 hQ)
  | drawn gs fs ks id ops hd hfs =>
    intro Q fr G C β a w r h he hQ
    obtain ⟨s, h1, h2⟩ := reg_done (M := M) (bx := bx) (N := N) (C0 := C0) (w0 := w0) (L := L) (Q := Q) hfs he
    refine wp_region_any hm ?_
    have hlen : gs.length = ops.size := hd.len
    rw [← hlen]
    refine any_ok hc hf hmt hd (h2 hQ) gs.length gs _ (fr, G) C β a _ rfl (List.Sublist.refl _) (by simp [hlen]) (fun i hi => ?_) (fun i k hi hil => ?_) h.drew (evL_flat gs fr G s (fun g hg => (hd.okg g hg).2.2) h1)
    · simp only [Array.getD, Array.size_replicate, hlen, hi, dif_pos, Array.getInternal_eq_getElem, Array.getElem_replicate, true_iff]
      exact hd.all i hi
    · simp [Array.getD, hlen, hi] at hil
end
end Go.Ai
set_option linter.unusedVariables false
set_option linter.unusedSimpArgs false
namespace Go.Ai
variable {M : SM}

inductive ResP (M : SM) : ARes → ResultVar → Prop
  | t (n) : ResP M (.t n) (.tmp n)
  | c (d k t) (ht : LdT M.P k t) : ResP M (.c d k) (.cell d t)
structure FnP (M : SM) (af : AFn) (fn : Func) : Prop where
  np : af.np ≤ fn.ntmps
  body : ∃ c, fn.body = some c ∧ CodeP M af.bx fn.ntmps af.body c
  len : af.res.length = fn.results.size
  res : ∀ (i : Nat) x y, af.res[i]? = some x → fn.results[i]? = some y → ResP M x y
def ProgP (M : SM) (AP : Nat → Option AFn) : Prop := ∀ f k af, M.fm f = some k → AP f = some af → ∃ fn, M.P.funcs[k]? = some fn ∧ FnP M af fn

theorem argFr_at : ∀ (as : List AVal) (n t : Nat), argFr n as t = if n ≤ t then (as[t - n]?).getD .undef else .undef := by
  intro as
  induction as with
  | nil => intro n t; simp [argFr, fr0]
  | cons v vs ih =>
    intro n t
    simp only [argFr, upd]
    by_cases h : t = n
    · subst h; simp
    · rw [if_neg h, ih]
      by_cases h2 : n ≤ t
      · rw [if_pos (by omega), if_pos h2]
        obtain ⟨k, rfl⟩ : ∃ k, t = n + (k + 1) := ⟨t - n - 1, by omega⟩
        rw [show n + (k + 1) - (n + 1) = k by omega, show n + (k + 1) - n = k + 1 by omega]
        rfl
      · rw [if_neg (by omega), if_neg h2]
theorem vr_not {C : Cx} {v : AVal} {V : Value} (h : VR M C v V) : (∀ cs, v ≠ .pbox cs) ∧ ∀ d c, v ≠ .pptr d c := by cases h <;> simp
section
variable {bx : List Nat} {N : Nat} {C0 : Cx} {w0 : World} {L : Nat → Prop} {C C' : Cx} {β : Nat → Nat} {fr fr' : Fr} {G G' : AG} {a : Act} {w w' : World}

/-- A function is entered. -/
theorem St.enter {as : List AVal} {args : Array Value} (hg : GR M C G w) (ha : VsR M C as args) (hN : as.length ≤ N) (bx : List Nat) :
    St M bx N C w (live C G) C (fun _ => 0) (argFr 0 as) G { tmps := args ++ Array.replicate (N - args.size) undef, defers := [] } w := by
  have hat : ∀ t, argFr 0 as t = (as[t]?).getD .undef := fun t => by rw [argFr_at]; simp
  have hno : ∀ t v, argFr 0 as t = v → v = .undef ∨ ∃ V, VR M C v V ∧ args[t]? = some V := by
    intro t v ht
    rw [hat] at ht
    rcases Nat.lt_or_ge t as.length with hl | hl
    · right
      have h1 : as[t]? = some as[t] := List.getElem?_eq_getElem hl
      have h2 : args[t]? = some (args[t]'(by rw [← ha.1]; exact hl)) := Array.getElem?_eq_getElem _
      rw [h1] at ht
      simp only [Option.getD_some] at ht
      exact ⟨_, by rw [← ht]; exact ha.2 t _ _ h1 h2, h2⟩
    · left
      rw [List.getElem?_eq_none hl] at ht
      exact ht.symm
  have hlen := ha.1
  refine ⟨Cx.le.refl C, Un.refl w _, hg, fun b hb => .inl hb, by simp; omega, rfl, fun t => ?_, fun t cs ht => ?_, fun t t' cs cs' ht _ => ?_, fun t d c ht => ?_, fun b arr hb => .inl hb⟩
  · generalize hv : argFr 0 as t = v
    rcases hno t v hv with rfl | ⟨V, h1, h2⟩
    · trivial
    · have h3 : t < args.size := (Array.getElem?_eq_some_iff.1 h2).1
      have h4 : (args ++ Array.replicate (N - args.size) undef).getD t undef = V := by
        rw [Array.getD_eq_getD_getElem?, Array.getElem?_append_left h3, h2]; rfl
      show SlotR M C _ t v ((args ++ Array.replicate (N - args.size) undef).getD t undef)
      rw [h4]
      exact slotR_of h1
  · rcases hno t _ ht with h | ⟨V, h1, _⟩
    · cases h
    · exact absurd rfl ((vr_not h1).1 cs)
  · rcases hno t _ ht with h | ⟨V, h1, _⟩
    · cases h
    · exact absurd rfl ((vr_not h1).1 cs)
  · rcases hno t _ ht with h | ⟨V, h1, _⟩
    · cases h
    · exact absurd rfl ((vr_not h1).2 d c)

/-- One result. -/
theorem res_one (h : St M bx N C0 w0 L C β fr G a w) {x : ARes} {y : ResultVar} (hr : ResP M x y) {v : AVal} (hv : resV fr x = some v) :
    ∃ V, ((match y with | .tmp t => pure (a.tmps.getD t undef) | .cell a' t => do loadVar t (← asAddr (a.tmps.getD a' undef))) : Sem Value).run M.P w = .ok V w ∧ VR M C v V := by
  cases hr with
  | t n =>
    simp only [resV] at hv
    refine ⟨_, rfl, ?_⟩
    have := h.gev (OpR.t (M := M) n) (v := v)
    have hs := h.slot n
    obtain ⟨h2, h3, h4, h5⟩ := gv_some hv
    rw [h2] at hs
    cases v <;> first | exact hs | exact absurd rfl h5 | exact absurd rfl (h3 _ _) | exact absurd rfl (h4 _)
  | c d k t ht =>
    simp only [resV] at hv
    split at hv
    · rename_i cs hcs
      obtain ⟨_, _, ⟨cur, ty, hb, _, hcr⟩, _⟩ := h.box d cs hcs
      have hs := h.slot d
      rw [hcs] at hs
      have hs' : a.tmps.getD d undef = .pointer (some ⟨β d, 0, none⟩) := hs
      obtain ⟨V, h1, h2⟩ := run_loadVar (P := M.P) ht (c := 0) hv hb hcr
      refine ⟨V, ?_, h2⟩
      simp only [hs', asAddr, Sem.run_bind, Sem.run_pure, Result.andThen_ok]
      simpa using h1
    · cases hv
theorem run_results (h : St M bx N C0 w0 L C β fr G a w) {res : List ARes} {fn : Func} (hl : res.length = fn.results.size) (hr : ∀ (i : Nat) x y, res[i]? = some x → fn.results[i]? = some y → ResP M x y) {v : AVal} (hv : resAll res fr = some v) :
    ∃ V, (results fn a.tmps).run M.P w = .ok V w ∧ VR M C v V := by
  have key : ∀ (res : List ARes) (l : List ResultVar), res.length = l.length → (∀ (i : Nat) x y, res[i]? = some x → l[i]? = some y → ResP M x y) → ∀ vs, resVs fr res = some vs →
      ∃ Vs : List Value, (l.mapM (fun | .tmp t => pure (a.tmps.getD t undef) | .cell a' t => do loadVar t (← asAddr (a.tmps.getD a' undef)) : ResultVar → Sem Value)).run M.P w = .ok Vs w ∧ vs.length = Vs.length ∧ ∀ (i : Nat) x y, vs[i]? = some x → Vs[i]? = some y → VR M C x y := by
    intro res
    induction res with
    | nil =>
      intro l hl _ vs hvs
      cases l with
      | nil => injection hvs with hvs; subst hvs; exact ⟨[], rfl, rfl, by simp⟩
      | cons _ _ => simp at hl
    | cons x xs ih =>
      intro l hl hr vs hvs
      cases l with
      | nil => simp at hl
      | cons y ys =>
        simp only [resVs, Option.bind_eq_some_iff] at hvs
        obtain ⟨v, hv, vs', hvs', e⟩ := hvs
        injection e with e
        subst e
        obtain ⟨V, h1, h2⟩ := res_one h (hr 0 x y rfl rfl) hv
        obtain ⟨Vs, h3, h4, h5⟩ := ih ys (by simpa using hl) (fun i x y hx hy => hr (i + 1) x y (by simpa using hx) (by simpa using hy)) vs' hvs'
        refine ⟨V :: Vs, ?_, by simp [h4], fun i p q hp hq => ?_⟩
        · rw [List.mapM_cons, Sem.run_bind, h1, Result.andThen_ok, Sem.run_bind, h3, Result.andThen_ok]; rfl
        · cases i with
          | zero => simp at hp hq; rw [← hp, ← hq]; exact h2
          | succ i => exact h5 i p q (by simpa using hp) (by simpa using hq)
  have hvs : ∃ vs, resVs fr res = some vs ∧ ((∃ x, vs = [x] ∧ v = x) ∨ (vs.length ≠ 1 ∧ v = .tuple vs)) := by
    unfold resAll at hv
    split at hv
    · rename_i x
      refine ⟨[v], ?_, .inl ⟨v, rfl, rfl⟩⟩
      simp only [resVs, hv, Option.bind_some]
    · rename_i xs hne
      simp only [Option.map_eq_some_iff] at hv
      obtain ⟨vs, h1, h2⟩ := hv
      refine ⟨vs, h1, .inr ⟨?_, h2.symm⟩⟩
      intro h3
      have hlen : ∀ (ys : List ARes) (us : List AVal), resVs fr ys = some us → us.length = ys.length := by
        intro ys
        induction ys with
        | nil => intro us h; injection h with h; subst h; rfl
        | cons y ys ih =>
          intro us h
          simp only [resVs, Option.bind_eq_some_iff] at h
          obtain ⟨_, _, us', hus, e⟩ := h
          injection e with e
          subst e
          simp [ih us' hus]
      have := hlen _ vs h1
      rw [h3] at this
      obtain ⟨x, hx⟩ := List.length_eq_one_iff.1 this.symm
      exact hne x hx
  obtain ⟨vs, h1, h2⟩ := hvs
  obtain ⟨Vs, h3, h4, h5⟩ := key res fn.results.toList (by simpa using hl) (fun i x y hx hy => hr i x y hx (by simpa using hy)) vs h1
  have hrun : (results fn a.tmps).run M.P w = .ok (if h : Vs.toArray.size = 1 then Vs.toArray[0] else .tuple Vs.toArray) w := by
    unfold results
    rw [Array.mapM_eq_mapM_toList]
    simp only [Sem.run_bind, Sem.run_map]
    erw [h3]
    rfl
  refine ⟨_, hrun, ?_⟩
  rcases h2 with ⟨x, rfl, rfl⟩ | ⟨hne, rfl⟩
  · have hl1 : Vs.length = 1 := by rw [← h4]; rfl
    obtain ⟨V, rfl⟩ := List.length_eq_one_iff.1 hl1
    exact h5 0 _ _ rfl rfl
  · have : ¬ Vs.toArray.size = 1 := by simp [← h4, hne]
    rw [dif_neg this]
    exact .tuple vs Vs.toArray (by simp [h4]) (fun i x y hx hy => h5 i x y hx (by simpa using hy))

theorem fn_ok {call : CallF} {mt : Nat → Nat → Option Nat} (hc : CallOK M call) (hf : FnsOk M) (hmt : MtOK M mt) (hm : M.P.follows .mixedOrders = true) {fuel : Nat} {af : AFn} {fn : Func} {k : FuncId} (hk : M.P.funcs[k]? = some fn) (hp : FnP M af fn)
    {as : List AVal} {v : AVal} {args : Array Value} (hg : GR M C G w) (ha : VsR M C as args) (hlen : as.length = af.np) {r : St3} (he : evC call mt fuel af.body (argFr 0 as) G = some r) (hx : ∀ id, r.1 ≠ .exit id) (hv : resAll af.res r.2.1 = some v) :
    Does M C G w k args v r.2.2 := by
  obtain ⟨c, hb, hcp⟩ := hp.body
  refine calls_of_wp hk hb ?_
  refine code_ok hc hf hmt hm fuel hcp _ _ G C (fun _ => 0) _ w r (St.enter hg ha (by rw [hlen]; exact hp.np) af.bx) he (fun C' β' a' w' hst => ?_)
  obtain ⟨V, h1, h2⟩ := run_results hst hp.len hp.res hv
  have hret : Ret M C C' G r.2.2 w w' := ⟨hst.le, hst.gr, hst.un, hst.mine, hst.ims⟩
  cases hr : r.1 with
  | normal => exact ⟨hst.defers, V, h1, C', hret, h2⟩
  | ret => exact ⟨hst.defers, V, h1, C', hret, h2⟩
  | exit id => exact absurd hr (hx id)
theorem sound {AP : Nat → Option AFn} {mt : Nat → Nat → Option Nat} (hf : FnsOk M) (hmt : MtOK M mt) (hm : M.P.follows .mixedOrders = true) (hp : ProgP M AP) : ∀ n, CallOK M (runF AP mt n) := by
  intro n
  induction n with
  | zero => intro f k as G v G' _ h; cases h
  | succ n ih =>
    intro f k as G v G' hk h C w args hg ha
    simp only [runF, Option.bind_eq_some_iff] at h
    obtain ⟨af, haf, h⟩ := h
    split at h
    · rename_i hlen
      simp only [Option.bind_eq_some_iff] at h
      obtain ⟨r, he, h⟩ := h
      obtain ⟨fn, hfn, hfp⟩ := hp f k af hk haf
      have key : (∀ id, r.1 ≠ .exit id) → ((resAll af.res r.2.1).bind fun v => some (v, r.2.2)) = some (v, G') → Does M C G w k args v G' := by
        intro hx hv
        simp only [Option.bind_eq_some_iff] at hv
        obtain ⟨v1, hv1, e⟩ := hv
        injection e with e; injection e with e1 e2
        subst e1 e2
        exact fn_ok ih hf hmt hm hfn hfp hg ha hlen he hx hv1
      cases hr : r.1 with
      | exit id => rw [hr] at h; cases h
      | normal => rw [hr] at h; exact key (by intro id e; rw [hr] at e; cases e) h
      | ret => rw [hr] at h; exact key (by intro id e; rw [hr] at e; cases e) h
    · cases h
theorem sound_run {AP : Nat → Option AFn} {mt : Nat → Nat → Option Nat} (hf : FnsOk M) (hmt : MtOK M mt) (hm : M.P.follows .mixedOrders = true) (hp : ProgP M AP) : CallOK M (run AP mt) := by
  intro f k as G v G' hk h
  obtain ⟨n, hn⟩ := (run_some AP mt).1 h
  exact sound hf hmt hm hp n f k as G v G' hk hn
end
end Go.Ai
