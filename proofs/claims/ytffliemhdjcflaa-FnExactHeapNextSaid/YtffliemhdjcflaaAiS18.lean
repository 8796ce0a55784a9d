/- Every order of a region whose order is drawn comes to the same. -/
import Derived.Test.YtffliemhdjcflaaAiS17
import Derived.Orders
set_option linter.unusedVariables false
set_option linter.unusedSimpArgs false
namespace Go.Ai
variable {M : SM}
abbrev Grp := AI × List AI
def flat (gs : List Grp) : List AI := gs.flatMap fun g => g.1 :: g.2
def Gh (a : AI) : Prop := a.dst = none ∧ ∃ t o, a.op = .again t o
section
variable {call : CallF} {mt : Nat → Nat → Option Nat} {bx : List Nat}
open Classical in
noncomputable def evP (call : CallF) (mt : Nat → Nat → Option Nat) (g : Grp) (s : S2) : Option S2 := (evI call mt g.1 s.1 s.2).bind fun s1 => if (∀ a ∈ g.2, evI call mt a s1.1 s1.2 = some s1) then some s1 else none
noncomputable def evL (call : CallF) (mt : Nat → Nat → Option Nat) : List Grp → S2 → Option S2
  | [], s => some s
  | g :: gs, s => (evP call mt g s).bind (evL call mt gs)
theorem evL_append : ∀ (xs ys : List Grp) (s : S2), evL call mt (xs ++ ys) s = (evL call mt xs s).bind (evL call mt ys) := by
  intro xs
  induction xs with
  | nil => intro ys s; rfl
  | cons x xs ih =>
    intro ys s
    simp only [List.cons_append, evL]
    cases evP call mt x s with
    | none => rfl
    | some s1 => simp only [Option.bind_some]; exact ih ys s1
theorem evP_some {g : Grp} {s s1 : S2} : evP call mt g s = some s1 ↔ evI call mt g.1 s.1 s.2 = some s1 ∧ ∀ a ∈ g.2, evI call mt a s1.1 s1.2 = some s1 := by
  simp only [evP, Option.bind_eq_some_iff]
  constructor
  · rintro ⟨s2, h1, h2⟩
    split at h2
    · rename_i h3; injection h2 with h2; subst h2; exact ⟨h1, h3⟩
    · cases h2
  · rintro ⟨h1, h2⟩
    exact ⟨s1, h1, if_pos h2⟩
theorem ghost_same {a : AI} (h : Gh a) {fr : Fr} {G : AG} {s : S2} (he : evI call mt a fr G = some s) : s = (fr, G) := by
  obtain ⟨j, d, g, o⟩ := a
  obtain ⟨h1, t, o', h2⟩ := h
  have h1' : d = none := h1
  have h2' : o = .again t o' := h2
  subst h1' h2'
  have hD : evD call mt ⟨j, none, g, .again t o'⟩ fr G = some s → s = (fr, G) := by
    intro h
    simp only [evD, Option.bind_eq_some_iff] at h
    obtain ⟨r, _, h⟩ := h
    split at h
    · injection h with h; exact h.symm
    · cases h
  unfold evI at he
  split at he
  · exact hD he
  · split at he
    · split at he
      · exact hD he
      · injection he with he; exact he.symm
    · injection he with he; exact he.symm
    · cases he
theorem evIs_append : ∀ (xs ys : List AI) (fr : Fr) (G : AG), evIs call mt (xs ++ ys) fr G = (evIs call mt xs fr G).bind fun s => evIs call mt ys s.1 s.2 := by
  intro xs
  induction xs with
  | nil => intro ys fr G; rfl
  | cons x xs ih =>
    intro ys fr G
    simp only [List.cons_append, evIs]
    cases evI call mt x fr G with
    | none => rfl
    | some s => simp only [Option.bind_some]; exact ih ys s.1 s.2
theorem ghosts_same : ∀ (as : List AI) (fr : Fr) (G : AG) (s : S2), (∀ a ∈ as, Gh a) → evIs call mt as fr G = some s → s = (fr, G) ∧ ∀ a ∈ as, evI call mt a fr G = some (fr, G) := by
  intro as
  induction as with
  | nil => intro fr G s _ h; injection h with h; exact ⟨h.symm, by simp⟩
  | cons a as ih =>
    intro fr G s hg h
    simp only [evIs, Option.bind_eq_some_iff] at h
    obtain ⟨s1, h1, h2⟩ := h
    have h3 := ghost_same (hg a (List.mem_cons_self ..)) h1
    subst h3
    obtain ⟨h4, h5⟩ := ih fr G s (fun b hb => hg b (List.mem_cons_of_mem _ hb)) h2
    refine ⟨h4, fun b hb => ?_⟩
    rcases List.mem_cons.1 hb with rfl | hb
    · exact h1
    · exact h5 b hb
theorem evL_flat : ∀ (gs : List Grp) (fr : Fr) (G : AG) (s : S2), (∀ g ∈ gs, ∀ a ∈ g.2, Gh a) → evIs call mt (flat gs) fr G = some s → evL call mt gs (fr, G) = some s := by
  intro gs
  induction gs with
  | nil => intro fr G s _ h; exact h
  | cons g gs ih =>
    intro fr G s hg h
    have e : flat (g :: gs) = g.1 :: (g.2 ++ flat gs) := by simp [flat]
    rw [e] at h
    simp only [evIs, Option.bind_eq_some_iff] at h
    obtain ⟨s1, h1, h2⟩ := h
    rw [evIs_append] at h2
    simp only [Option.bind_eq_some_iff] at h2
    obtain ⟨s2, h2, h3⟩ := h2
    obtain ⟨h4, h5⟩ := ghosts_same g.2 s1.1 s1.2 s2 (hg g (List.mem_cons_self ..)) h2
    subst h4
    simp only [evL, Option.bind_eq_some_iff]
    exact ⟨s1, evP_some.2 ⟨h1, h5⟩, ih s1.1 s1.2 s (fun b hb => hg b (List.mem_cons_of_mem _ hb)) h3⟩

/-- What is asked of those that one goes ahead of. -/
structure Bub (bx : List Nat) (R : S2 → Prop) (call : CallF) (mt : Nat → Nat → Option Nat) (pre : List Grp) (p : AI) : Prop where
  okp : Okg bx p
  ok : ∀ g ∈ pre, Okg bx g.1 ∧ (g.1.op.simple = true → g.2 = []) ∧ ∀ a ∈ g.2, Gh a
  sw : ∀ g ∈ pre, Sw g.1 p ∧ ∀ a ∈ g.2, ∀ t, p.dst = some t → OffS a t
  pair : pre.Pairwise fun m q => m.1.op.mem = true → q.1.op.simple = true → ∀ t, q.1.dst = some t → OffS m.1 t
  r : ∀ s, R s → PPf bx s.1
  rs : ∀ g ∈ pre, ∀ s s', R s → evI call mt g.1 s.1 s.2 = some s' → R s'
  rp : ∀ s s', R s → evI call mt p s.1 s.2 = some s' → R s'
theorem evL_R {R : S2 → Prop} : ∀ (pre : List Grp) (s s1 : S2), (∀ g ∈ pre, ∀ s s', R s → evI call mt g.1 s.1 s.2 = some s' → R s') → R s → evL call mt pre s = some s1 → R s1 := by
  intro pre
  induction pre with
  | nil => intro s s1 _ h he; injection he with he; rw [← he]; exact h
  | cons g gs ih =>
    intro s s1 hr h he
    simp only [evL, Option.bind_eq_some_iff] at he
    obtain ⟨s2, h1, h2⟩ := he
    exact ih s2 s1 (fun b hb => hr b (List.mem_cons_of_mem _ hb)) (hr g (List.mem_cons_self ..) s s2 h (evP_some.1 h1).1) h2
theorem again_off {m : AI} {t u : Nat} (h : OffS m u) (hm : m.dst = some t) : OffS (againOf m t) u := by
  refine ⟨fun x hx => ?_, h.g, by simp [againOf], fun x hx => ?_⟩
  · have hx' : x ∈ Opd.t t :: m.op.opds := hx
    rcases List.mem_cons.1 hx' with rfl | hx'
    · intro e; injection e with e; exact h.dst (by rw [hm, e])
    · exact h.op x hx'
  · have hx' : x ∈ Opd.t t :: m.op.opds := hx
    rcases List.mem_cons.1 hx' with rfl | hx'
    · intro d c e; cases e
    · exact h.pc x hx'
theorem bubble {R : S2 → Prop} {p : AI} : ∀ (n : Nat) (pre : List Grp) (s s1 s2 : S2), pre.length = n → Bub bx R call mt pre p → evL call mt pre s = some s1 → evI call mt p s1.1 s1.2 = some s2 →
    (p.op.simple = false → ∀ m ∈ pre, m.1.op.mem = true → ∀ t, m.1.dst = some t → evI call mt (againOf m.1 t) s2.1 s2.2 = some s2) → R s → ∃ s', evI call mt p s.1 s.2 = some s' ∧ evL call mt pre s' = some s2 := by
  intro n
  induction n with
  | zero =>
    intro pre s s1 s2 hl hb h1 h2 _ _
    have : pre = [] := List.length_eq_zero_iff.1 hl
    subst this
    injection h1 with h1
    subst h1
    exact ⟨s2, h2, rfl⟩
  | succ n ih =>
    intro pre s s1 s2 hl hb h1 h2 hag hR
    rcases List.eq_nil_or_concat pre with e | ⟨pre', g, e⟩
    · rw [e] at hl; simp at hl
    · rw [List.concat_eq_append] at e
      subst e
      rw [evL_append] at h1
      simp only [Option.bind_eq_some_iff] at h1
      obtain ⟨s0, h0, h1⟩ := h1
      simp only [evL, Option.bind_eq_some_iff] at h1
      obtain ⟨s1', h1, h1e⟩ := h1
      injection h1e with h1e
      subst h1e
      obtain ⟨hq, hchk⟩ := evP_some.1 h1
      have hmem : g ∈ pre' ++ [g] := by simp
      have hsub : ∀ m ∈ pre', m ∈ pre' ++ [g] := fun m hm => by simp [hm]
      have hR0 : R s0 := evL_R pre' s s0 (fun m hm => hb.rs m (hsub m hm)) hR h0
      have hR1 : R s1' := hb.rs g hmem s0 s1' hR0 hq
      obtain ⟨hsw, hswc⟩ := hb.sw g hmem
      obtain ⟨hok, hok2, hok3⟩ := hb.ok g hmem
      obtain ⟨fr', G', ep, eq'⟩ := swap0 hsw hok hb.okp (hb.r s0 hR0) hq h2 (fun fr' G' he => hb.r (fr', G') (hb.rp s0 (fr', G') hR0 he)) (fun hm hp t ht => hag hp g hmem hm t ht)
      have hRp : R (fr', G') := hb.rp s0 (fr', G') hR0 ep
      have hbs : Bub bx R call mt pre' p := ⟨hb.okp, fun m hm => hb.ok m (hsub m hm), fun m hm => hb.sw m (hsub m hm), (List.pairwise_append.1 hb.pair).1, hb.r, fun m hm => hb.rs m (hsub m hm), hb.rp⟩
      have hlen : pre'.length = n := by simp at hl; exact hl
      have hcq : ∀ a ∈ g.2, evI call mt a s2.1 s2.2 = some s2 := by
        intro a ha
        rcases hsw.kind with ⟨hk, _⟩ | ⟨hk, _⟩ | ⟨_, hk⟩
        · rw [hok2 hk] at ha; cases ha
        · rw [hok2 hk] at ha; cases ha
        · obtain ⟨hG, v, hfr, hpd⟩ := simple_frame (by simp [AOp.simple, hk] : p.op.simple = true) hb.okp.d (show evI call mt p s1'.1 s1'.2 = some (s2.1, s2.2) from h2)
          have := off_put (call := call) (mt := mt) (G := s1'.2) (v := v) (fun t ht => (hswc a ha t ht).off (hb.r _ hR1) (hpd t ht))
          rw [hchk a ha] at this
          rw [hfr, hG, this]
          simp only [Option.map_some]
          rw [← hfr, ← hG]
      have hag' : p.op.simple = false → ∀ m ∈ pre', m.1.op.mem = true → ∀ t, m.1.dst = some t → evI call mt (againOf m.1 t) fr' G' = some (fr', G') := by
        intro hp m hm hmm t ht
        have h5 := hag hp m (hsub m hm) hmm t ht
        have hqs : g.1.op.simple = true := by
          rcases hsw.kind with ⟨hk, _⟩ | ⟨hk, _⟩ | ⟨_, hk⟩
          · exact hk
          · exact hk
          · simp [AOp.simple, hk] at hp
        obtain ⟨hG, v, hfr, hqd⟩ := simple_frame hqs hok.d (show evI call mt g.1 fr' G' = some (s2.1, s2.2) from eq')
        have hpw := (List.pairwise_append.1 hb.pair).2.2 m hm g (by simp) hmm hqs
        have h6 := off_put (call := call) (mt := mt) (G := G') (v := v) (fun t' ht' => (again_off (hpw t' ht') ht).off (hb.r _ hRp) (hqd t' ht'))
        rw [← hfr, ← hG, h5] at h6
        cases h7 : evI call mt (againOf m.1 t) fr' s2.2 with
        | none => rw [h7] at h6; cases h6
        | some s7 =>
          have h8 := ghost_same (show Gh (againOf m.1 t) from ⟨rfl, t, m.1.op, rfl⟩) h7
          rw [← hG, h7, h8, hG]
      obtain ⟨s', h8, h9⟩ := ih pre' s s0 (fr', G') hlen hbs h0 ep hag' hR
      refine ⟨s', h8, ?_⟩
      rw [evL_append, h9]
      simp only [Option.bind_some, evL]
      rw [evP_some.2 ⟨eq', hcq⟩]
      rfl
end
end Go.Ai
