/- Two neighbours change places; one goes ahead of a list. -/
import Derived.Test.YtffliemhdjcflaaAiS16
set_option linter.unusedVariables false
set_option linter.unusedSimpArgs false
namespace Go.Ai
/-- q stands before p in the text, p may go first. -/
structure Sw (q p : AI) : Prop where
  qp : ∀ t, p.dst = some t → OffS q t
  pq : ∀ t, q.dst = some t → OffS p t
  kind : (q.op.simple = true ∧ p.op.simple = true) ∨ (q.op.simple = true ∧ p.op.simple = false) ∨ (q.op.simple = false ∧ p.op.pure = true)
/-- An operation of a region whose order is drawn. -/
structure Okg (bx : List Nat) (i : AI) : Prop where
  d : DstS bx i
  self : i.op.mem = true → ∃ t, i.dst = some t ∧ (∀ x ∈ i.op.opds, x ≠ .t t) ∧ ∀ s w, i.grd = some (s, w) → s ≠ t
  pc : ∀ x ∈ i.op.opds, NoPC x
section
variable {call : CallF} {mt : Nat → Nat → Option Nat} {fr fr' fr1 fr2 : Fr} {G G' G1 G2 : AG} {bx : List Nat}

theorem dst_off {i : AI} {fr : Fr} {v : AVal} (hd : DstS bx i) (h : ∀ t, i.dst = some t → t ∉ bx ∨ fr t = .undef) : True := trivial
theorem eff_dst {i : AI} (hd : DstS bx i) (h : i.op.simple = false) : ∀ t, i.dst = some t → t ∉ bx := by
  apply hd.2
  cases hb : i.op.isBox with
  | false => rfl
  | true =>
    exfalso
    obtain ⟨j, d, g, o⟩ := i
    cases o <;> simp [AOp.isBox, AOp.simple, AOp.pure] at hb h
/-- The frame that an operation leaves, at what another does not look at. -/
theorem view_eq {i p : AI} (hp : PPf bx fr) (he : evI call mt i fr G = some (fr1, G1)) {x : Opd} (hx : ∀ t, i.dst = some t → x ≠ .t t) : x.ev fr1 = x.ev fr := by
  rcases frame_of he with h | ⟨v, h⟩ | ⟨d, cs, cs', hd, h⟩
  · rw [h]
  · rw [h]
    cases hdst : i.dst with
    | none => rfl
    | some t => exact ev_upd (hx t hdst)
  · rw [h]
    cases x with
    | c v => rfl
    | t n =>
      simp only [Opd.ev, upd]
      split
      · rename_i e; rw [e, hd]; rfl
      · rfl
theorem slot_eq {i : AI} (he : evI call mt i fr G = some (fr1, G1)) {s : Nat} (hs : i.dst ≠ some s) (hb : (∃ cs, fr s = .pbox cs) → False) : fr1 s = fr s := by
  rcases frame_of he with h | ⟨v, h⟩ | ⟨d, cs, cs', hd, h⟩
  · rw [h]
  · rw [h]; exact put_ne hs
  · rw [h]
    refine upd_ne (fun e => hb ⟨cs, by rw [e]; exact hd⟩)
theorem slot_back {i : AI} (he : evI call mt i fr G = some (fr1, G1)) {s : Nat} (hs : i.dst ≠ some s) (hb : (∃ cs, fr1 s = .pbox cs) → False) : fr s = fr1 s := by
  refine (slot_eq he hs ?_).symm
  rintro ⟨cs, hcs⟩
  rcases frame_of he with h | ⟨v, h⟩ | ⟨d, cs0, cs', hd, h⟩
  · exact hb ⟨cs, by rw [h]; exact hcs⟩
  · exact hb ⟨cs, by rw [h, put_ne hs]; exact hcs⟩
  · by_cases e : s = d
    · exact hb ⟨cs', by rw [h, e]; exact upd_eq⟩
    · exact hb ⟨cs, by rw [h, upd_ne e]; exact hcs⟩

theorem swap0 {q p : AI} (hs : Sw q p) (hq : Okg bx q) (hp : Okg bx p) (h0 : PPf bx fr) (e1 : evI call mt q fr G = some (fr1, G1)) (e2 : evI call mt p fr1 G1 = some (fr2, G2))
    (hpp : ∀ fr' G', evI call mt p fr G = some (fr', G') → PPf bx fr') (hag : q.op.mem = true → p.op.simple = false → ∀ t, q.dst = some t → evI call mt (againOf q t) fr2 G2 = some (fr2, G2)) :
    ∃ fr' G', evI call mt p fr G = some (fr', G') ∧ evI call mt q fr' G' = some (fr2, G2) := by
  have hne : ∀ t, q.dst = some t → p.dst ≠ some t := fun t ht => (hs.pq t ht).dst
  rcases Classical.em (q.op.simple = true) with hqs | hqs
  · obtain ⟨hG, vq, hfr1, hqd⟩ := simple_frame hqs hq.d e1
    subst hG
    have hoffp : ∀ t, q.dst = some t → Off p t fr := fun t ht => (hs.pq t ht).off h0 (hqd t ht)
    rw [hfr1, off_put hoffp] at e2
    simp only [Option.map_eq_some_iff] at e2
    obtain ⟨⟨frp, Gp⟩, ep, e2⟩ := e2
    injection e2 with e2 e3
    subst e3
    refine ⟨frp, Gp, ep, ?_⟩
    rcases Classical.em (p.op.simple = true) with hps | hps
    · obtain ⟨hG, vp, hfrp, hpd⟩ := simple_frame hps hp.d ep
      have hG' : Gp = G1 := hG
      subst hG'
      have hoffq : ∀ t, p.dst = some t → Off q t fr := fun t ht => (hs.qp t ht).off h0 (hpd t ht)
      rw [hfrp, off_put hoffq, e1]
      simp only [Option.map_some, hfr1, ← e2, hfrp]
      rw [put_comm hne]
    · have hpsf : p.op.simple = false := by simpa using hps
      have hfree : ∀ x ∈ q.op.opds, x.ev frp = x.ev fr := fun x hx => view_eq (p := p) h0 ep (fun t ht => (hs.qp t ht).op x hx)
      have hgd : ∀ s w, q.grd = some (s, w) → ((∃ b, fr s = .bool b) ∨ fr s = .tuple []) → frp s = fr s := by
        intro s w hg hb
        refine slot_eq ep (fun e => (hs.qp s e).g s w hg rfl) ?_
        rintro ⟨cs, hcs⟩
        rcases hb with ⟨b, hb⟩ | hb <;> rw [hb] at hcs <;> cases hcs
      have hqs' := hqs
      simp only [AOp.simple, Bool.or_eq_true] at hqs'
      rw [← e2]
      rcases hqs' with hpu | hme
      · rw [hfr1] at e1
        obtain ⟨u, hu1, hu2⟩ := pure_move (fr2 := frp) (G2 := Gp) hpu hq.d e1 hfree hgd (fun t ht hu => by
          rw [slot_eq ep (fun e => (hs.qp t e).dst ht) (by rintro ⟨cs, hcs⟩; rw [hu] at hcs; cases hcs)]; exact hu)
        rw [hu2]
        cases hd : q.dst with
        | none => rfl
        | some t =>
          rw [hd] at hu1
          have := congrFun hu1 t
          simp only [put, upd, if_true] at this
          rw [this]
      · obtain ⟨t, hdt, hself, hsg⟩ := hq.self hme
        have hnb : q.op.isBox = false := by
          cases hb : q.op.isBox with
          | false => rfl
          | true =>
            exfalso
            obtain ⟨j, d, g, o⟩ := q
            cases o <;> simp [AOp.isBox, AOp.mem] at hb hme
        have htb : t ∉ bx := hq.d.2 hnb t hdt
        have hag' := hag hme hpsf t hdt
        rw [← e2, hdt] at hag'
        have hppf : PPf bx frp := hpp frp Gp ep
        have hevs : evOp call mt (put frp (some t) vq) Gp q.op = evOp call mt frp Gp q.op := evOp_off hself (fun x hx c => hppf.no (hq.pc x hx) (hself x hx) (.inl htb) c)
        have hD : evD call mt (againOf q t) (put frp (some t) vq) Gp = some (put frp (some t) vq, Gp) → evD call mt q frp Gp = some (put frp q.dst vq, Gp) := by
          intro h
          simp only [againOf, evD, hevs, Option.bind_eq_some_iff] at h
          obtain ⟨⟨u, Gu⟩, hu, h⟩ := h
          split at h
          · rename_i hc
            rw [evD_val hqs hnb, hu]
            obtain ⟨u', hu'⟩ := evOp_mem (call := call) (mt := mt) (fr := frp) (G := Gp) hme
            rw [hu] at hu'
            cases u' with
            | none => cases hu'
            | some u' =>
              injection hu' with hu'; injection hu' with e3 e4
              have e4' : Gu = Gp := e4
              subst e4'
              have hc' : u = vq := by
                have : u = upd frp t vq t := hc
                rw [this, upd_eq]
              rw [hc']; rfl
          · cases h
        unfold evI at hag' e1 ⊢
        cases hg : q.grd with
        | none =>
          have hg' : (againOf q t).grd = none := hg
          rw [hg'] at hag'
          exact hD hag'
        | some sw =>
          obtain ⟨s, w⟩ := sw
          have hg' : (againOf q t).grd = some (s, w) := hg
          rw [hg'] at hag'
          rw [hg] at e1
          have hst : s ≠ t := hsg s w hg
          have hput : put frp (some t) vq s = frp s := put_ne (fun e => hst (by injection e with e; exact e.symm))
          simp only [hput] at hag'
          simp only at e1 ⊢
          have hfs : ((∃ b, fr s = .bool b) ∨ fr s = .tuple []) := by
            split at e1
            · rename_i b hb; exact .inl ⟨b, hb⟩
            · rename_i hb; exact .inr hb
            · cases e1
          have hss := hgd s w hg hfs
          rcases hfs with ⟨b, hb⟩ | hb
          · rw [hss, hb] at hag' ⊢
            rw [hb] at e1
            simp only at hag' e1 ⊢
            by_cases hw : b = w
            · rw [if_pos hw] at hag' ⊢; exact hD hag'
            · rw [if_neg hw] at e1 ⊢
              injection e1 with e1; injection e1 with e3 e4
              rw [hfr1, hdt] at e3
              have := congrFun e3 t
              simp only [put, upd, if_true] at this
              rw [this]
          · rw [hss, hb]
            rw [hb] at e1
            simp only at e1 ⊢
            injection e1 with e1; injection e1 with e3 e4
            rw [hfr1, hdt] at e3
            have := congrFun e3 t
            simp only [put, upd, if_true] at this
            rw [this]
  · have hqsf : q.op.simple = false := by simpa using hqs
    have hpu : p.op.pure = true := by
      rcases hs.kind with ⟨h, _⟩ | ⟨h, _⟩ | ⟨_, h⟩
      · exact absurd h hqs
      · exact absurd h hqs
      · exact h
    have hps : p.op.simple = true := by simp [AOp.simple, hpu]
    obtain ⟨hG, vp, hfr2, hpd⟩ := simple_frame hps hp.d e2
    have hG' : G2 = G1 := hG
    subst hG'
    rw [hfr2] at e2
    have hview : ∀ x ∈ p.op.opds, x.ev fr = x.ev fr1 := fun x hx => (view_eq (p := p) h0 e1 (fun t ht => (hs.pq t ht).op x hx)).symm
    obtain ⟨u, hu1, hu2⟩ := pure_move (fr2 := fr) (G2 := G) hpu hp.d e2 hview (fun s w hg hb => by
        refine slot_back e1 (fun e => (hs.pq s e).g s w hg rfl) ?_
        rintro ⟨cs, hcs⟩
        rcases hb with ⟨b, hb⟩ | hb <;> rw [hb] at hcs <;> cases hcs)
      (fun t ht hu => by rw [slot_back e1 (fun e => (hs.pq t e).dst ht) (by rintro ⟨cs, hcs⟩; rw [hu] at hcs; cases hcs)]; exact hu)
    obtain ⟨_, v2, hv2, hpd0⟩ := simple_frame hps hp.d hu2
    refine ⟨_, _, hu2, ?_⟩
    rw [off_put (fun t ht => (hs.qp t ht).off h0 (hpd0 t ht)), e1]
    simp only [Option.map_some, hfr2, hu1]
end
end Go.Ai
