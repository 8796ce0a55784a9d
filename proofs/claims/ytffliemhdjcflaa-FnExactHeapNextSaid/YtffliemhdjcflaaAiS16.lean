/- An operation that is ready goes ahead of those that stand before it in the text. -/
import Derived.Test.YtffliemhdjcflaaAiS15
set_option linter.unusedVariables false
set_option linter.unusedSimpArgs false
namespace Go.Ai

abbrev S2 := Fr × AG
def AOp.isBox : AOp → Bool
  | .boxP _ | .allocP _ => true
  | _ => false
def AOp.simple (o : AOp) : Bool := o.pure || o.mem
def againOf (i : AI) (t : Nat) : AI := ⟨i.j, none, i.grd, .again t i.op⟩
structure PPf (bx : List Nat) (fr : Fr) : Prop where
  pp : ∀ n d c, fr n = .pptr d c → d ∈ bx ∧ fr d ≠ .undef
  bx : ∀ n cs, fr n = .pbox cs → n ∈ bx
def NoPC (x : Opd) : Prop := ∀ d c, x ≠ .c (.pptr d c)
/-- A slot that an operation neither looks at nor gives. -/
structure OffS (i : AI) (t : Nat) : Prop where
  op : ∀ x ∈ i.op.opds, x ≠ .t t
  g : ∀ s w, i.grd = some (s, w) → s ≠ t
  dst : i.dst ≠ some t
  pc : ∀ x ∈ i.op.opds, NoPC x
section
variable {call : CallF} {mt : Nat → Nat → Option Nat} {fr fr' fr1 fr2 : Fr} {G G' G1 G2 : AG} {bx : List Nat}

theorem PPf.no (h : PPf bx fr) {x : Opd} {t : Nat} (hx : NoPC x) (ht : x ≠ .t t) (hb : t ∉ bx ∨ fr t = .undef) (c : Nat) : x.ev fr ≠ .pptr t c := by
  intro e
  cases x with
  | c v => exact hx t c (by rw [show v = .pptr t c from e])
  | t n =>
    simp only [Opd.ev] at e
    cases hn : fr n with
    | pptr d c' =>
      rw [hn] at e
      simp only [pv] at e
      injection e with e1 e2
      subst e1
      obtain ⟨h1, h2⟩ := h.pp n d c' hn
      rcases hb with hb | hb
      · exact hb h1
      · exact h2 hb
    | pbox cs =>
      rw [hn] at e
      simp only [pv] at e
      injection e with e1 e2
      exact ht (by rw [e1])
    | _ => rw [hn] at e; simp only [pv] at e; cases e
theorem OffS.off {i : AI} {t : Nat} (h : OffS i t) (hp : PPf bx fr) (hb : t ∉ bx ∨ fr t = .undef) : Off i t fr :=
  ⟨h.op, h.g, h.dst, fun x hx c => hp.no (h.pc x hx) (h.op x hx) hb c⟩
theorem off_put {i : AI} {d : Option Nat} {v : AVal} (h : ∀ t, d = some t → Off i t fr) : evI call mt i (put fr d v) G = (evI call mt i fr G).map fun s => (put s.1 d v, s.2) := by
  cases d with
  | none => simp only [put]; cases evI call mt i fr G <;> rfl
  | some t => exact evI_off (h t rfl)
theorem put_comm {d e : Option Nat} {u v : AVal} (h : ∀ t, d = some t → e ≠ some t) : put (put fr d u) e v = put (put fr e v) d u := by
  cases d with
  | none => rfl
  | some d => exact put_upd (h d rfl)
/-- Where an operation's value goes: a struct variable's slot, or any other. -/
def DstS (bx : List Nat) (i : AI) : Prop := (i.op.isBox = true → i.grd = none) ∧ (i.op.isBox = false → ∀ t, i.dst = some t → t ∉ bx)

theorem noBox {o : AOp} (h : o.isBox = false) : (∀ x, o ≠ .boxP x) ∧ ∀ z, o ≠ .allocP z := by
  constructor <;> (intro x e; subst e; cases h)
theorem evD_val {i : AI} (h : i.op.simple = true) (hb : i.op.isBox = false) : evD call mt i fr G = (evOp call mt fr G i.op).bind fun r => some (put fr i.dst r.1, r.2) := by
  obtain ⟨j, d, g, o⟩ := i
  cases o <;> first | rfl | (simp only [AOp.simple, AOp.pure, AOp.mem, AOp.isBox, Bool.or_self, Bool.false_eq_true, reduceCtorEq] at h hb)
theorem simple_frame {i : AI} (h : i.op.simple = true) (hd : DstS bx i) (he : evI call mt i fr G = some (fr', G')) : G' = G ∧ ∃ v, fr' = put fr i.dst v ∧ ∀ t, i.dst = some t → t ∉ bx ∨ fr t = .undef := by
  cases hbx : i.op.isBox with
  | false =>
    have h1 : ∀ t, i.dst = some t → t ∉ bx ∨ fr t = .undef := fun t ht => .inl (hd.2 hbx t ht)
    have h2 : evD call mt i fr G = some (fr', G') → G' = G ∧ ∃ v, fr' = put fr i.dst v ∧ ∀ t, i.dst = some t → t ∉ bx ∨ fr t = .undef := by
      intro he
      rw [evD_val h hbx] at he
      simp only [Option.bind_eq_some_iff] at he
      obtain ⟨⟨v, Gr⟩, hr, he⟩ := he
      injection he with he; injection he with e1 e2
      have hG : Gr = G := by
        simp only [AOp.simple, Bool.or_eq_true] at h
        rcases h with h | h
        · obtain ⟨u, hu⟩ := evOp_pure (call := call) (mt := mt) (fr := fr) h (noBox hbx)
          rw [hu] at hr
          cases u with
          | none => cases hr
          | some u => injection hr with hr; injection hr with _ e; exact e.symm
        · obtain ⟨u, hu⟩ := evOp_mem (call := call) (mt := mt) (fr := fr) (G := G) h
          rw [hu] at hr
          cases u with
          | none => cases hr
          | some u => injection hr with hr; injection hr with _ e; exact e.symm
      exact ⟨by rw [← e2]; exact hG, v, e1.symm, h1⟩
    unfold evI at he
    split at he
    · exact h2 he
    · split at he
      · split at he
        · exact h2 he
        · injection he with he; injection he with e1 e2
          exact ⟨e2.symm, _, e1.symm, h1⟩
      · injection he with he; injection he with e1 e2
        exact ⟨e2.symm, _, e1.symm, h1⟩
      · cases he
  | true =>
    unfold evI at he
    rw [hd.1 hbx] at he
    simp only at he
    obtain ⟨j, d, g, o⟩ := i
    cases o <;> simp only [AOp.isBox, Bool.false_eq_true] at hbx
    · cases d with
      | none => cases he
      | some d =>
        simp only [evD] at he
        split at he
        · rename_i hu
          simp only [Option.bind_eq_some_iff] at he
          obtain ⟨cs, _, he⟩ := he
          injection he with he; injection he with e1 e2
          exact ⟨e2.symm, _, e1.symm, fun t ht => .inr (by injection ht with ht; rw [← ht]; exact hu)⟩
        · cases he
    · cases d with
      | none => cases he
      | some d =>
        simp only [evD] at he
        split at he
        · rename_i hu
          injection he with he; injection he with e1 e2
          exact ⟨e2.symm, _, e1.symm, fun t ht => .inr (by injection ht with ht; rw [← ht]; exact hu)⟩
        · cases he
/-- An operation that depends on its operands alone, in another frame and another heap. -/
theorem pure_move {i : AI} {v : AVal} (h : i.op.pure = true) (hd : DstS bx i) (he : evI call mt i fr G = some (put fr i.dst v, G))
    (hop : ∀ x ∈ i.op.opds, x.ev fr2 = x.ev fr) (hg : ∀ s w, i.grd = some (s, w) → ((∃ b, fr s = .bool b) ∨ fr s = .tuple []) → fr2 s = fr s) (hbox : ∀ t, i.dst = some t → fr t = .undef → fr2 t = .undef) :
    ∃ u, put fr i.dst u = put fr i.dst v ∧ evI call mt i fr2 G2 = some (put fr2 i.dst u, G2) := by
  cases hbx : i.op.isBox with
  | false =>
    have hs : i.op.simple = true := by simp [AOp.simple, h]
    obtain ⟨u, hu⟩ := evOp_pure (call := call) (mt := mt) (fr := fr) h (noBox hbx)
    have hu2 : evOp call mt fr2 G2 i.op = u.map fun v => (v, G2) := by
      rw [evOp_congr hop (fun k x e => by rw [e] at h; cases h)]; exact hu G2
    have h2 : evD call mt i fr G = some (put fr i.dst v, G) → ∃ u, put fr i.dst u = put fr i.dst v ∧ evD call mt i fr2 G2 = some (put fr2 i.dst u, G2) := by
      intro he
      rw [evD_val hs hbx, hu] at he
      rw [evD_val hs hbx, hu2]
      cases u with
      | none => cases he
      | some u =>
        injection he with he; injection he with e1 e2
        exact ⟨u, e1, rfl⟩
    unfold evI at he ⊢
    split at he
    · exact h2 he
    · rename_i s w hgr
      have hgs := hg s w hgr
      split at he
      · rename_i b hb
        rw [hgs (.inl ⟨b, hb⟩), hb]
        simp only
        split at he
        · rename_i hw; rw [if_pos hw]; exact h2 he
        · rename_i hw
          rw [if_neg hw]
          injection he with he; injection he with e1 e2
          exact ⟨_, e1, rfl⟩
      · rename_i hb
        rw [hgs (.inr hb), hb]
        injection he with he; injection he with e1 e2
        exact ⟨_, e1, rfl⟩
      · cases he
  | true =>
    unfold evI at he ⊢
    rw [hd.1 hbx] at he ⊢
    simp only at he ⊢
    obtain ⟨j, d, g, o⟩ := i
    cases o <;> simp only [AOp.isBox, Bool.false_eq_true] at hbx
    · rename_i x
      cases d with
      | none => cases he
      | some d =>
        simp only [evD] at he ⊢
        split at he
        · rename_i hu
          rw [hbox d rfl hu]
          simp only [gcells_congr (hop x (by simp [AOp.opds]))]
          simp only [Option.bind_eq_some_iff] at he
          obtain ⟨cs, hcs, he⟩ := he
          injection he with he; injection he with e1 e2
          exact ⟨.pbox cs, e1, by rw [hcs]; rfl⟩
        · cases he
    · cases d with
      | none => cases he
      | some d =>
        simp only [evD] at he ⊢
        split at he
        · rename_i hu
          rw [hbox d rfl hu]
          injection he with he; injection he with e1 e2
          exact ⟨_, e1, rfl⟩
        · cases he
theorem frame_ofD {i : AI} (he : evD call mt i fr G = some (fr1, G1)) : fr1 = fr ∨ (∃ v, fr1 = put fr i.dst v) ∨ ∃ d cs cs', fr d = .pbox cs ∧ fr1 = upd fr d (.pbox cs') := by
  obtain ⟨j, d, g, o⟩ := i
  have key : ∀ (o : AOp), (evOp call mt fr G o).bind (fun r => some (put fr d r.1, r.2)) = some (fr1, G1) → fr1 = fr ∨ (∃ v, fr1 = put fr d v) ∨ ∃ d cs cs', fr d = .pbox cs ∧ fr1 = upd fr d (.pbox cs') := by
    intro o h
    simp only [Option.bind_eq_some_iff] at h
    obtain ⟨r, _, h⟩ := h
    injection h with h; injection h with h1 h2
    exact .inr (.inl ⟨_, h1.symm⟩)
  cases o <;> try exact key _ he
  case mv x => exact key (.mv x) he
  case allocH z => exact key (.allocH z) he
  case fz x => exact key (.fz x) he
  case boxP x =>
    cases d with
    | none => cases he
    | some d =>
      simp only [evD] at he
      split at he
      · simp only [Option.bind_eq_some_iff] at he
        obtain ⟨cs, _, h⟩ := he
        injection h with h; injection h with h1 h2
        exact .inr (.inl ⟨_, h1.symm⟩)
      · cases he
  case allocP x =>
    cases d with
    | none => cases he
    | some d =>
      simp only [evD] at he
      split at he
      · injection he with h; injection h with h1 h2
        exact .inr (.inl ⟨_, h1.symm⟩)
      · cases he
  case store n x v =>
    simp only [evD, Option.bind_eq_some_iff] at he
    obtain ⟨vs, _, h⟩ := he
    split at h
    · split at h
      · rename_i b c _
        split at h
        · rename_i cs hb
          split at h
          · injection h with h; injection h with h1 h2
            exact .inr (.inr ⟨b, cs, _, hb, h1.symm⟩)
          · cases h
        · cases h
      · simp only [Option.bind_eq_some_iff] at h
        obtain ⟨es, _, e, _, h⟩ := h
        split at h
        · injection h with h; injection h with h1 h2
          exact .inl h1.symm
        · cases h
      · cases h
    · cases h
  case free b =>
    simp only [evD] at he
    split at he
    · injection he with h; injection h with h1 h2
      exact .inl h1.symm
    · injection he with h; injection h with h1 h2
      exact .inl h1.symm
    · cases he
  case again b o =>
    simp only [evD, Option.bind_eq_some_iff] at he
    obtain ⟨r, _, h⟩ := he
    split at h
    · injection h with h; injection h with h1 h2
      exact .inl h1.symm
    · cases h
/-- What an operation does to the frame. -/
theorem frame_of {i : AI} (he : evI call mt i fr G = some (fr1, G1)) : fr1 = fr ∨ (∃ v, fr1 = put fr i.dst v) ∨ ∃ d cs cs', fr d = .pbox cs ∧ fr1 = upd fr d (.pbox cs') := by
  unfold evI at he
  split at he
  · exact frame_ofD he
  · split at he
    · split at he
      · exact frame_ofD he
      · injection he with he; injection he with e1 e2
        exact .inr (.inl ⟨_, e1.symm⟩)
    · injection he with he; injection he with e1 e2
      exact .inr (.inl ⟨_, e1.symm⟩)
    · cases he
end
end Go.Ai
