/- Draws: a method. Draws: a method, a program. Draws: a new heap; calls never become fewer; what is read of a heap. -/
import Derived.Test.YtffliemhdjcflaaD8
import Derived.Test.YtffliemhdjcflaaD4
set_option linter.unusedSimpArgs false
set_option linter.unusedVariables false
namespace Go.Ai
variable {mt : Nat → Nat → Option Nat}
attribute [local simp] cnd_ite gS_ite callBy_whole
section
variable {α : Type} {e : α → List AVal} {k n n1 : Nat} {l : List α} {v : AVal} {g : Heap'}
/-- Behind a list that lies below n1. -/
def LsQ2 (e : α → List AVal) (k n1 n : Nat) (l : List α) (g : Heap') (v : AVal) (G : AG) : Prop := ∃ n' g', G = ⟨n', g'⟩ ∧ n ≤ n' ∧ Ls e n n' l v g' ∧ ∀ id, id < k ∨ n1 ≤ id → id < n → g' id = g id
theorem Ls.app2 (h : Ls e k n1 l v g) (hk : k ≤ n1) (hn : n1 ≤ n) {z bytes : Nat} (hz : ∀ a, (e a).length = z) {y : AVal} {l2 : List α} (hs : srcOf g y = some (l2.map e)) (hl : (l.length + l2.length) * bytes ≤ maxA) :
    Rn (appV z bytes v y ⟨n, g⟩) (LsQ2 e k n1 n (l ++ l2) g) := by
  have hz' : ∀ x ∈ l2.map e, x.length = z := by intro x hx; obtain ⟨a, _, rfl⟩ := List.mem_map.1 hx; exact hz a
  have hz1 : ∀ x ∈ l.map e, x.length = z := by intro x hx; obtain ⟨a, _, rfl⟩ := List.mem_map.1 hx; exact hz a
  have hlm : (l2.map e).length = l2.length := List.length_map _
  have hlm1 : (l.map e).length = l.length := List.length_map _
  rcases h with ⟨rfl, rfl⟩ | ⟨h0, id, h1, h2, rfl, h4⟩
  · by_cases h2 : l2 = []
    · subst h2
      refine ⟨.nils, ⟨n, g⟩, ?_, n, g, rfl, Nat.le_refl _, .nil, fun _ _ _ => rfl⟩
      simp [appV, hs]
    · refine ⟨.slice n 0 l2.length, ⟨n + 1, updO g n (some (l2.map e))⟩, ?_, n + 1, _, rfl, by omega, .inr ⟨by simpa using h2, n, Nat.le_refl _, by omega, by simp, by simp [updO]⟩, fun id _ hid => by simp only [updO]; rw [if_neg (by omega)]⟩
      have hne : l2.map e ≠ [] := by simpa using h2
      simp only [List.length_nil, Nat.zero_add] at hl
      simp only [appV, hs, Option.bind_some, if_pos hz', if_neg hne, hlm, if_pos hl]
  · refine ⟨.slice n 0 (l.length + l2.length), ⟨n + 1, updO (updO g id none) n (some (l.map e ++ l2.map e))⟩, ?_, n + 1, _, rfl, by omega, .inr ⟨by simp [h0], n, Nat.le_refl _, by omega, by simp, by simp [updO]⟩, fun i hi hin => by simp only [updO]; rw [if_neg (by omega), if_neg (by omega)]⟩
    have hne : l.map e ≠ [] := by simpa using h0
    have hc : True ∧ l.map e ≠ [] ∧ (∀ x ∈ l.map e, x.length = z) ∧ (l.length + l2.length) * bytes ≤ maxA := ⟨trivial, hne, hz1, hl⟩
    simp only [appV, hs, Option.bind_some, if_pos hz', h4, hlm, hlm1]
    exact if_pos hc
end
section
variable {o : Nat} {b : List Nat} {q : Int} {n : Nat} {g g0 : Heap'} {nm t a : Int} {l l2 : List GOp} {v v2 : AVal} {n' : Nat} {L : Nat}
def rc98 : AC := (.seq (.reg [xf 0 65 2 7, xl 1 66 65,
    ⟨2, some 67, none, .len (.t 66)⟩, xm 3 68 10,
    ⟨4, some 69, none, .len (.t 68)⟩,
    ⟨5, some 70, none, .bin .add (.t 67) (.t 69)⟩,
    ⟨6, some 71, none, .bin .leq (.t 70) (.c (.int .i64 12))⟩] [0, 1, 6, 7, 8, 9, 10, 71])
  (.cond (.t 71)
  (.reg [xf 0 72 2 7, xl 1 73 72, xm 2 74 10,
    ⟨3, some 75, none, .app 2 16 (.t 73) (.t 74)⟩, xf 4 76 2 7,
    ⟨5, none, none, .store 1 (.t 76) (.t 75)⟩] [0, 1, 6, 7, 8, 9])
  .skip))
theorem b98_eq : b_98_0 = (.seq (.seq (.reg [xm 0 25 9,
    ⟨1, some 26, none, .bin .lss (.t 25) (.c (.int .i64 4))⟩] [0, 1, 6, 7, 8, 9, 26])
  (.cond (.t 26)
  .skip
  (.exit 0)))
  (.seq (.block 1
  (.seq (.reg [xm 0 29 0, xm 1 30 1, xf 2 31 1 7, xl 3 32 31,
    ⟨4, some 33, none, .call .whole 113 [.t 29, .t 30, .t 32]⟩, xm 5 10 33] [0, 1, 6, 7, 8, 9, 10])
  (.seq (.seq (.reg [xm 0 34 8,
    ⟨1, some 35, none, .bin .lss (.t 34) (.c (.int .i64 0))⟩, xm 2 36 35,
    ⟨3, some 37, some (36, true), .mv (.t 0)⟩,
    ⟨4, some 38, some (36, true), .call .whole 76 [.t 37, .c (.int .i64 6)]⟩,
    ⟨5, some 39, some (36, true), .bin .eql (.t 38) (.c (.int .i64 0))⟩,
    ⟨6, some 40, none, .pick (.t 36) (.t 39) (.c (.bool false))⟩, xm 7 41 40,
    ⟨8, some 42, some (41, true), .fld 2 (.t 7)⟩,
    ⟨9, some 43, some (41, true), .load none (.t 42)⟩,
    ⟨10, some 44, some (41, true), .len (.t 43)⟩,
    ⟨11, some 45, some (41, true), .mv (.t 10)⟩,
    ⟨12, some 46, some (41, true), .len (.t 45)⟩,
    ⟨13, some 47, some (41, true), .bin .add (.t 44) (.t 46)⟩,
    ⟨14, some 48, some (41, true), .bin .leq (.t 47) (.c (.int .i64 10))⟩,
    ⟨15, some 49, none, .pick (.t 41) (.t 48) (.c (.bool false))⟩] [0, 1, 6, 7, 8, 9, 10, 49])
  (.cond (.t 49)
  (.seq (.reg [xf 0 50 2 7, xl 1 51 50,
    ⟨2, some 52, none, .len (.t 51)⟩,
    ⟨3, some 53, none, .bin .add (.t 52) (.c (.int .i64 1))⟩, xm 4 8 53] [0, 1, 6, 7, 8, 9, 10])
  (.reg [xf 0 54 2 7, xl 1 55 54, xm 2 56 0, xf 3 57 1 7, xl 4 58 57,
    ⟨5, some 59, none, .call .whole 76 [.t 56, .t 58]⟩,
    ⟨1, none, none, .again 55 (.load none (.t 54))⟩,
    ⟨6, some 60, none, .build [.int .i64 0, .int .i64 0] [(0, 1, .c (.int .i64 2)), (1, 1, .t 59)]⟩,
    ⟨7, some 61, none, .build [.int .i64 0, .int .i64 0] [(0, 1, .c (.int .i64 8))]⟩,
    ⟨8, some 62, none, .litI 2 [.t 60, .t 61]⟩,
    ⟨9, some 63, none, .app 2 16 (.t 55) (.t 62)⟩, xf 10 64 2 7,
    ⟨11, none, none, .store 1 (.t 64) (.t 63)⟩] [0, 1, 6, 7, 8, 9, 10]))
  .skip))
  rc98)))
  (.reg [xm 0 27 9,
    ⟨1, some 28, none, .bin .add (.t 27) (.c (.int .i64 1))⟩, xm 2 9 28] [0, 1, 6, 7, 8, 9]))) := rfl
theorem rc_98 (W : LW o b n g0 nm t q 12 l v n' g) (s2 : srcOf g v2 = some (l2.map eOp)) (k2 : Ok1 v2) (h2 : lenV v2 = some (vi l2.length)) (h4 : l2.length ≤ 4) (a2 : ∀ op ∈ l2, opN nm t 1 op = true)
    {fr : Fr} (e7 : fr 7 = .pbox [vi a, vi t, v]) (e10 : fr 10 = v2) (e0 : ∀ i ∈ [0, 1, 6, 8, 9], kv (fr i) = fr i) {S : List KF} {Φ : AVal → AG → Prop}
    (next : ∀ (fr' : Fr) l' v' n2 g2, (∀ i ∈ [0, 1, 6, 8, 9], fr' i = fr i) → fr' 7 = .pbox [vi a, vi t, v'] → LW o b n g0 nm t q 12 l' v' n2 g2 → (∃ s, l' = l ++ s) → Rn (unw AP mt .normal fr' ⟨n2, g2⟩ S) Φ) : Rn (evS AP mt rc98 fr ⟨n', g⟩ S) Φ := by
  have hk := W.ok
  have hll := W.le
  have hlv := W.ls.len
  have c0 := e0 0 (by simp)
  have c1 := e0 1 (by simp)
  have c6 := e0 6 (by simp)
  have c8 := e0 8 (by simp)
  have c9 := e0 9 (by simp)
  have hw : IntKind.i64.wrap ((l.length : Int) + l2.length) = (l.length : Int) + l2.length := wrap_id (by omega) (by omega)
  by_cases hc : (l.length : Int) + l2.length ≤ 12
  · simp [-lenV, rc98, e7, e10, hlv, h2, hw, hc, k2.k, k2.p, k2.g, hk.k, hk.p, hk.g, c0, c1, c6, c8, c9]
    refine bindR (P := fun y => Rn y _) (W.ls.app2 W.D.kn (Nat.le_refl _) (z := 2) (bytes := 16) (fun _ => rfl) s2 (by simp [maxA]; omega)) ?_
    rintro v' G' ⟨n7, g7, rfl, r1, r2, r3⟩
    have hk' := r2.ok
    have W7 : LW o b n g0 nm t q 12 (l ++ l2) v' n7 g7 := ⟨W.D.heap r1 (fun id hid => r3 id (.inl hid) (by have := W.D.kn; omega)), r2.low W.D.kn, fun op hop => (List.mem_append.1 hop).elim (W.al op) (a2 op), by simp; omega⟩
    simp [hk'.k, hk'.p, hk'.g, hk'.c, c0, c1, c6, c8, c9]
    refine next _ _ _ _ _ ?_ ?_ W7 ⟨l2, rfl⟩
    · intro i hi
      simp at hi
      rcases hi with rfl | rfl | rfl | rfl | rfl <;> simp
    · simp
  · simp [-lenV, rc98, e7, e10, hlv, h2, hw, hc, k2.k, k2.p, k2.g, hk.k, hk.p, hk.g, c0, c1, c6, c8, c9]
    refine next _ _ _ _ _ ?_ ?_ W ⟨[], by simp⟩
    · intro i hi
      simp at hi
      rcases hi with rfl | rfl | rfl | rfl | rfl <;> simp
    · simp
/-- The frame of the loop. -/
abbrev F98 (o ia : Nat) (la : List Int) (a t : Int) (i : Nat) (s : AVal × Int) : Fr := upd (upd (upd (upd (upd (upd fr0 9 (vi i)) 8 (vi s.2)) 7 (.pbox [vi a, vi t, s.1])) 6 (.pbox [vi 0, vi 0, .nils])) 1 (.slice ia 0 la.length)) 0 (.ptr o 0 0)
/-- What stands at skip is a jump. -/
def SkipR (l : List GOp) (sk : Int) : Prop := sk = -1 ∨ (0 ≤ sk ∧ ∃ x, l[sk.toNat]? = some ⟨8, x⟩)
theorem SkipR.app {sk : Int} (h : SkipR l sk) (s : List GOp) : SkipR (l ++ s) sk := by
  rcases h with h | ⟨h0, x, h1⟩
  · exact .inl h
  · exact .inr ⟨h0, x, by rw [List.getElem?_append_left (List.getElem?_eq_some_iff.1 h1).1]; exact h1⟩
def Inv98 (o : Nat) (b : List Nat) (n : Nat) (g : Heap') (nm t : Int) (q : Int) (i : Nat) (s : AVal × Int) (G : AG) : Prop := ∃ l n' g', G = ⟨n', g'⟩ ∧ LW o b n g nm t (q + 10 * i) 12 l s.1 n' g' ∧ SkipR l s.2
theorem loop_98 (hb : Cd b) (hq : q ≤ 60000) (ht : 1 ≤ t ∧ t ≤ 4) {ia : Nat} {la : List Int} (A : ArgsR o n g nm ia la) {S : List KF} {Φ : AVal → AG → Prop}
    (hx : ∀ s G, Inv98 o b n g nm t q 4 s G → Rn (evS AP mt b_98_0 (F98 o ia la a t 4 s) G (.loop l_98_0 :: S)) Φ) (v : AVal) (sk : Int) (G : AG) (hi0 : Inv98 o b n g nm t q 0 (v, sk) G) : Rn (evS AP mt (.loop l_98_0) (F98 o ia la a t 0 (v, sk)) G S) Φ := by
  refine loop_for (fun y => Rn y Φ) 4 (F98 o ia la a t) (Inv98 o b n g nm t q) (fun _ _ _ => u_98_0) hx ?_ 4 0 (v, sk) G (by omega) hi0
  rintro i ⟨v, sk⟩ G hi ⟨l, n', g', rfl, W, hsk⟩ next
  have hk := W.ok
  have hlv := W.ls.len
  have hll := W.le
  have hcc : (i : Int) < 4 := by omega
  have hwr : IntKind.i64.wrap ((i : Int) + 1) = (i : Int) + 1 := wrap_id (by omega) (by omega)
  simp only [b98_eq, F98]
  simp [hcc, hk.k, hk.p, hk.g]
  have A1 := A.keep W.D.kn W.D.z
  refine bindR (P := fun y => Rn y _) (part_113 (mt := mt) W.D.start hb (by omega) ht A1) ?_
  intro v2 G h
  obtain ⟨l2, n2, g2, rfl, W2⟩ := h.lw
  have k2 := W2.ok
  have h2 := W2.ls.len
  have h4 := W2.le
  have D2 := W.D.join W2.D
  have L1 : Ls eOp n n' l v g2 := W.ls.keep (Nat.le_refl _) (fun id e1 e2 => W2.D.z id e2 (by have := W.D.ok; omega))
  have hw : IntKind.i64.wrap ((l.length : Int) + l2.length) = (l.length : Int) + l2.length := wrap_id (by omega) (by omega)
  have hn2 : n' ≤ n2 := W2.D.kn
  have hkn := W.D.kn
  have e10 : q + 10 * ((i + 1 : Nat) : Int) = q + 10 * i + 10 := by omega
  -- what follows
  have cont : ∀ (sk' : Int) (l1 : List GOp) (v1 : AVal) (n3 : Nat) (g3 : Heap') (fr : Fr), fr 0 = .ptr o 0 0 → fr 1 = .slice ia 0 la.length → fr 6 = .pbox [vi 0, vi 0, .nils] → fr 8 = vi sk' → fr 9 = vi i → fr 7 = .pbox [vi a, vi t, v1] → fr 10 = v2 →
      LW o b n g nm t (q + 10 * i + 10) 12 l1 v1 n3 g3 → srcOf g3 v2 = some (l2.map eOp) → SkipR l1 sk' → Rn (evS AP mt rc98 fr ⟨n3, g3⟩ (.block 1 :: .seq (.reg [xm 0 27 9,
    ⟨1, some 28, none, .bin .add (.t 27) (.c (.int .i64 1))⟩, xm 2 9 28] [0, 1, 6, 7, 8, 9]) :: .loop l_98_0 :: S)) Φ := by
    intro sk' l1 v1 n3 g3 fr f0 f1 f6 f8 f9 f7 f10 W3 s3 hs3
    refine rc_98 W3 s3 k2 h2 h4 W2.al f7 f10 ?_ ?_
    · intro j hj
      simp at hj
      rcases hj with rfl | rfl | rfl | rfl | rfl
      · rw [f0]; rfl
      · rw [f1]; rfl
      · rw [f6]; rfl
      · rw [f8]; rfl
      · rw [f9]; rfl
    · intro fr' l' v' n4 g4 hfr e7 W4 ⟨s, hs⟩
      have i0 := (hfr 0 (by simp)).trans f0
      have i1 := (hfr 1 (by simp)).trans f1
      have i6 := (hfr 6 (by simp)).trans f6
      have i8 := (hfr 8 (by simp)).trans f8
      have i9 := (hfr 9 (by simp)).trans f9
      have := next (v', sk') ⟨n4, g4⟩ ⟨l', n4, g4, rfl, by rw [e10]; exact W4, by subst hs; exact hs3.app s⟩
      simp [i0, i1, i6, i8, i9, e7, hwr]
      simpa [F98] using this
  by_cases hneg : sk < 0
  · simp [-lenV, hneg, k2.k, k2.p, k2.g, hk.k, hk.p, hk.g]
    refine bindR (P := fun y => Rn y _) (D2.pick hb (by omega) 6 (by omega)) ?_
    rintro w G ⟨z, g3, rfl, rfl, z0, z1, -, D3, k3⟩
    have L3 : Ls eOp n n' l v g3 := L1.keep (Nat.le_refl _) (fun id e1 e2 => k3 id (by have := W.D.ok; omega))
    have L23 : Ls eOp n' n2 l2 v2 g3 := W2.ls.keep (Nat.le_refl _) (fun id e1 e2 => k3 id (by have := W.D.ok; omega))
    have W3 : LW o b n g nm t (q + 10 * i + 10) 12 l v n2 g3 := ⟨D3.mono (by omega) (Nat.le_refl _), L3.keep hn2 (fun _ _ _ => rfl), W.al, hll⟩
    by_cases hz : z = 0
    · by_cases hc : (l.length : Int) + l2.length ≤ 10
      · have hw1 : IntKind.i64.wrap ((l.length : Int) + 1) = (l.length : Int) + 1 := wrap_id (by omega) (by omega)
        simp [-lenV, hz, hw, hc, hlv, h2, hw1, k2.k, k2.p, k2.g, hk.k, hk.p, hk.g]
        refine bindR (P := fun y => Rn y _) (D3.pick hb (by omega) t (by omega)) ?_
        rintro w G ⟨y, g4, rfl, rfl, y0, y1, -, D4, k4⟩
        have y2 := y1 (by omega)
        have L4 : Ls eOp n n' l v g4 := L3.keep (Nat.le_refl _) (fun id e1 e2 => k4 id (by have := W.D.ok; omega))
        have L24 : Ls eOp n' n2 l2 v2 g4 := L23.keep (Nat.le_refl _) (fun id e1 e2 => k4 id (by have := W.D.ok; omega))
        simp [-lenV, hk.k, hk.p, hk.g, k2.k, k2.p, k2.g]
        refine bindR (P := fun y => Rn y _) (L4.app2 hkn hn2 (z := 2) (bytes := 16) (fun _ => rfl) (l2 := [⟨2, y⟩, ⟨8, 0⟩]) rfl (by simp [maxA]; omega)) ?_
        rintro v' G' ⟨n7, g7, rfl, r1, r2, r3⟩
        have hk' := r2.ok
        have L27 : Ls eOp n' n2 l2 v2 g7 := L24.keep (Nat.le_refl _) (fun id e1 e2 => r3 id (.inr e1) e2)
        simp [-lenV, hk'.k, hk'.p, hk'.g, hk'.c, k2.k, k2.p, k2.g]
        refine cont (l.length + 1) (l ++ [⟨2, y⟩, ⟨8, 0⟩]) v' n7 g7 _ rfl rfl rfl rfl rfl rfl rfl ⟨(D4.heap r1 (fun id hid => r3 id (.inl hid) (by omega))).mono (by omega) (Nat.le_refl _), r2.low (by omega), ?_, by simp; omega⟩ L27.src (.inr ⟨by omega, 0, ?_⟩)
        · intro op hop
          rcases List.mem_append.1 hop with h | h
          · exact W.al op h
          · simp at h
            rcases h with rfl | rfl
            · simp [opN, inR]; omega
            · simp [opN, inR]
        · have e : ((l.length : Int) + 1).toNat = l.length + 1 := by omega
          rw [e, List.getElem?_append_right (by omega)]
          simp
      · simp [-lenV, hz, hw, hc, hlv, h2, k2.k, k2.p, k2.g, hk.k, hk.p, hk.g]
        exact cont sk l v n2 g3 _ rfl rfl rfl rfl rfl rfl rfl W3 L23.src hsk
    · simp [-lenV, hz, k2.k, k2.p, k2.g, hk.k, hk.p, hk.g]
      exact cont sk l v n2 g3 _ rfl rfl rfl rfl rfl rfl rfl W3 L23.src hsk
  · simp [-lenV, hneg, k2.k, k2.p, k2.g, hk.k, hk.p, hk.g]
    exact cont sk l v n2 g2 _ rfl rfl rfl rfl rfl rfl rfl ⟨D2.mono (by omega) (Nat.le_refl _), L1.keep hn2 (fun _ _ _ => rfl), W.al, hll⟩ W2.ls.src hsk
/-- A method of those that are drawn. -/
structure MethN (nm : Int) (m : GMethod) : Prop where
  args : 0 ≤ m.args ∧ m.args ≤ 2
  temps : m.args ≤ m.temps ∧ m.temps ≤ 4
  len : m.ops.length ≤ 14
  ops : ∀ op ∈ m.ops, opN nm m.temps m.ops.length op = true
/-- A method is answered. -/
def MQ (o : Nat) (b : List Nat) (q : Int) (n : Nat) (g : Heap') (nm : Int) (ar : Int) (v : AVal) (G : AG) : Prop := ∃ m n' g', v = aMethod m ∧ G = ⟨n', g'⟩ ∧ DS n o b g q n' g' ∧ MethN nm m ∧ m.args = ar
theorem stOp {l : List GOp} {i : Nat} {op : GOp} {x : Int} (h : l[i]? = some op) : stH 1 i 1 [vi x] (some (l.map eOp)) = some ((l.set i ⟨op.kind, x⟩).map eOp) := by
  rw [stH_ok (e := eOp op) (by simp [h]) (by simp)]
  congr 1
  rw [List.map_set]
  rfl
def fin98c : AC := (.seq (.reg [xf 0 106 2 7, xl 1 107 106,
    ⟨2, some 108, none, .build [.int .i64 0, .int .i64 0] [(0, 1, .c (.int .i64 10))]⟩,
    ⟨3, some 109, none, .litI 2 [.t 108]⟩,
    ⟨4, some 110, none, .app 2 16 (.t 107) (.t 109)⟩, xf 5 111 2 7,
    ⟨6, none, none, .store 1 (.t 111) (.t 110)⟩] [6, 7])
  (.seq (.reg [xL 0 112 3 7,
    ⟨1, none, none, .store 3 (.t 6) (.t 112)⟩,
    ⟨0, none, none, .fzb 6 2⟩] [6])
  .ret))
def fin98b : AC := (.seq (.seq (.reg [xm 0 87 0,
    ⟨1, some 88, none, .call .whole 76 [.t 87, .c (.int .i64 3)]⟩,
    ⟨2, some 89, none, .bin .eql (.t 88) (.c (.int .i64 0))⟩] [0, 6, 7, 89])
  (.cond (.t 89)
  (.reg [xf 0 90 2 7, xl 1 91 90,
    ⟨2, some 92, none, .build [.int .i64 0, .int .i64 0] [(0, 1, .c (.int .i64 11))]⟩,
    ⟨3, some 93, none, .litI 2 [.t 92]⟩,
    ⟨4, some 94, none, .app 2 16 (.t 91) (.t 93)⟩, xf 5 95 2 7,
    ⟨6, none, none, .store 1 (.t 95) (.t 94)⟩] [6, 7])
  (.reg [xf 0 96 2 7, xl 1 97 96, xm 2 98 0, xf 3 99 1 7, xl 4 100 99,
    ⟨5, some 101, none, .call .whole 76 [.t 98, .t 100]⟩,
    ⟨1, none, none, .again 97 (.load none (.t 96))⟩,
    ⟨6, some 102, none, .build [.int .i64 0, .int .i64 0] [(0, 1, .c (.int .i64 2)), (1, 1, .t 101)]⟩,
    ⟨7, some 103, none, .litI 2 [.t 102]⟩,
    ⟨8, some 104, none, .app 2 16 (.t 97) (.t 103)⟩, xf 9 105 2 7,
    ⟨10, none, none, .store 1 (.t 105) (.t 104)⟩] [6, 7])))
  fin98c)
def fin98a : AC := (.seq (.seq (.reg [xm 0 77 8,
    ⟨1, some 78, none, .bin .geq (.t 77) (.c (.int .i64 0))⟩] [0, 6, 7, 8, 78])
  (.cond (.t 78)
  (.reg [xf 0 79 2 7, xl 1 80 79, xm 2 81 8, xf 3 82 2 7, xl 4 83 82,
    ⟨5, some 84, none, .len (.t 83)⟩, xi 6 85 2 80 81, xf 7 86 1 85,
    ⟨8, none, none, .store 1 (.t 86) (.t 84)⟩] [0, 6, 7])
  .skip))
  fin98b)
/-- Behind the loop: two operations more, and what was left open. -/
theorem fin_98 (W : LW o b n g0 nm t q 12 l v n' g) (hb : Cd b) (hq : q ≤ 90000) (ht : 1 ≤ t ∧ t ≤ 4) (ha : 0 ≤ a ∧ a ≤ 2) (hat : a ≤ t) (sk : Int) (hsk : SkipR l sk) (hnm : 0 ≤ nm) {fr : Fr} (e0 : fr 0 = .ptr o 0 0) (e6 : fr 6 = .pbox [vi 0, vi 0, .nils]) (e7 : fr 7 = .pbox [vi a, vi t, v]) (e8 : fr 8 = vi sk) :
    Rn (evS AP mt fin98a fr ⟨n', g⟩ [.fin [.c 6 (some 3)]]) (MQ o b (q + 2) n g0 nm a) := by
  have hk := W.ok
  have hlv := W.ls.len
  have hll := W.le
  have hkn := W.D.kn
  have okn := W.D.ok
  -- what is left open is told
  have st2 : ∀ (fr : Fr) (l1 : List GOp) (v1 : AVal) (g1 : Heap'), fr 0 = .ptr o 0 0 → fr 6 = .pbox [vi 0, vi 0, .nils] → fr 7 = .pbox [vi a, vi t, v1] → DS n o b g0 q n' g1 → Ls eOp n n' l1 v1 g1 → l1.length ≤ 12 → (∀ op ∈ l1, opN nm t (l1.length + 1) op = true) →
      Rn (evS AP mt fin98b fr ⟨n', g1⟩ [.fin [.c 6 (some 3)]]) (MQ o b (q + 2) n g0 nm a) := by
    intro fr l1 v1 g1 e0 e6 e7 D1 L1 hl1 al1
    have hk1 := L1.ok
    have st3 : ∀ (fr : Fr) (l2 : List GOp) (v2 : AVal) (n2 : Nat) (g2 : Heap'), fr 6 = .pbox [vi 0, vi 0, .nils] → fr 7 = .pbox [vi a, vi t, v2] → DS n o b g0 (q + 2) n2 g2 → Ls eOp n n2 l2 v2 g2 → l2.length ≤ 13 → (∀ op ∈ l2, opN nm t l2.length op = true) →
        Rn (evS AP mt fin98c fr ⟨n2, g2⟩ [.fin [.c 6 (some 3)]]) (MQ o b (q + 2) n g0 nm a) := by
      intro fr l2 v2 n2 g2 e6 e7 D2 L2 hl2 al2
      have hk2 := L2.ok
      simp [fin98c, e6, e7, hk2.k, hk2.p, hk2.g, hk2.c]
      refine bindR (P := fun y => Rn y _) (L2.app D2.kn (z := 2) (bytes := 16) (fun _ => rfl) (l2 := [⟨10, 0⟩]) rfl (by simp [maxA]; omega)) ?_
      rintro v' G' ⟨n7, g7, rfl, r1, r2, r3⟩
      have hk' := r2.ok
      have D7 := D2.heap r1 r3
      rcases r2 with ⟨e, _⟩ | ⟨hne, id, i0, i1, rfl, i4⟩
      · simp at e
      have hfit : (l2 ++ [(⟨10, 0⟩ : GOp)]).length = l2.length + 1 := by simp
      have htk : ((l2 ++ [(⟨10, 0⟩ : GOp)]).map eOp).take (l2.length + 1) = (l2 ++ [(⟨10, 0⟩ : GOp)]).map eOp := List.take_of_length_le (by simp)
      have i4' := i4
      rw [List.map_append] at i4' htk
      simp only [List.map_cons, List.map_nil, eOp] at i4' htk
      simp [e6, e7, i4', htk, hk2.k, hk2.p, hk2.g, hk2.c]
      refine .mk ⟨⟨a, t, l2 ++ [⟨10, 0⟩]⟩, n7, _, ?_, rfl, D7.heap (Nat.le_refl _) (fun j hj => by simp only [updO]; rw [if_neg (by omega)]), ⟨ha, ⟨hat, ht.2⟩, by simp; omega, ?_⟩, rfl⟩
      · simp [eOp]
      · intro op hop
        rcases List.mem_append.1 hop with h | h
        · exact opN_mono (al2 op h) (by simp; omega)
        · simp at h; subst h; simp [opN, inR]
    simp [fin98b, e0, e6, e7]
    refine bindR (P := fun y => Rn y _) (D1.pick hb (by omega) 3 (by omega)) ?_
    rintro w G ⟨z, g3, rfl, rfl, z0, z1, -, D3, k3⟩
    have L3 : Ls eOp n n' l1 v1 g3 := L1.keep (Nat.le_refl _) (fun id e1 e2 => k3 id (by omega))
    by_cases hz : z = 0
    · simp [hz, e6, e7, hk1.k, hk1.p, hk1.g, hk1.c]
      refine bindR (P := fun y => Rn y _) (L3.app D3.kn (z := 2) (bytes := 16) (fun _ => rfl) (l2 := [⟨11, 0⟩]) rfl (by simp [maxA]; omega)) ?_
      rintro v' G' ⟨n7, g7, rfl, r1, r2, r3⟩
      have hk' := r2.ok
      simp [hk'.k, hk'.p, hk'.g, hk'.c]
      refine st3 _ (l1 ++ [⟨11, 0⟩]) v' n7 g7 rfl rfl ((D3.heap r1 r3).mono (by omega) (Nat.le_refl _)) r2 (by simp; omega) ?_
      intro op hop
      rcases List.mem_append.1 hop with h | h
      · exact opN_mono (al1 op h) (by simp)
      · simp at h; subst h; simp [opN, inR]
    · simp [hz, e0, e6, e7, hk1.k, hk1.p, hk1.g, hk1.c]
      refine bindR (P := fun y => Rn y _) (D3.pick hb (by omega) t (by omega)) ?_
      rintro w G ⟨y, g4, rfl, rfl, y0, y1, -, D4, k4⟩
      have y2 := y1 (by omega)
      have L4 : Ls eOp n n' l1 v1 g4 := L3.keep (Nat.le_refl _) (fun id e1 e2 => k4 id (by omega))
      simp [hk1.k, hk1.p, hk1.g, hk1.c]
      refine bindR (P := fun y => Rn y _) (L4.app D4.kn (z := 2) (bytes := 16) (fun _ => rfl) (l2 := [⟨2, y⟩]) rfl (by simp [maxA]; omega)) ?_
      rintro v' G' ⟨n7, g7, rfl, r1, r2, r3⟩
      have hk' := r2.ok
      simp [hk'.k, hk'.p, hk'.g, hk'.c]
      refine st3 _ (l1 ++ [⟨2, y⟩]) v' n7 g7 rfl rfl ((D4.heap r1 r3).mono (by omega) (Nat.le_refl _)) r2 (by simp; omega) ?_
      intro op hop
      rcases List.mem_append.1 hop with h | h
      · exact opN_mono (al1 op h) (by simp)
      · simp at h; subst h; simp [opN, inR]; omega
  rcases hsk with rfl | ⟨s0, x, hx⟩
  · simp [fin98a, e0, e6, e7, e8, hk.k, hk.p, hk.g]
    refine st2 _ l v g ?_ ?_ ?_ W.D W.ls hll (fun op hop => opN_mono (W.al op hop) (by omega)) <;> simp [e0, e6, e7]
  · have hlt := (List.getElem?_eq_some_iff.1 hx).1
    rcases W.ls with ⟨rfl, _⟩ | ⟨hne, id, i0, i1, rfl, i4⟩
    · simp at hlt
    have hix : idxV 2 (.slice id 0 l.length) (vi sk) g = some (.ptr id sk.toNat 0) := by
      have := idx_slice (z := 2) (k := .i64) (off := 0) (len := l.length) (e := [vi 8, vi x]) s0 (by omega) i4 (by simp [hx]) rfl
      simpa using this
    have hst := stOp (x := l.length) hx
    rw [← i4] at hst
    simp [fin98a, s0, e0, e6, e7, e8, hix, hst]
    refine st2 _ (l.set sk.toNat ⟨8, l.length⟩) (.slice id 0 l.length) _ rfl rfl rfl (W.D.heap (Nat.le_refl _) (fun j hj => by simp only [updO]; rw [if_neg (by omega)])) (.inr ⟨by simpa using hne, id, i0, i1, by simp, by simp [updO]⟩) (by simpa using hll) ?_
    intro op hop
    rw [List.length_set]
    rcases List.mem_or_eq_of_mem_set hop with h | rfl
    · exact opN_mono (W.al op h) (by omega)
    · simp [opN, inR]
end
end Go.Ai
set_option linter.unusedSimpArgs false
set_option linter.unusedVariables false
namespace Go.Ai
variable {mt : Nat → Nat → Option Nat}
attribute [local simp] cnd_ite gS_ite callBy_whole
section
variable {o : Nat} {b : List Nat} {q : Int} {n : Nat} {g g0 : Heap'} {nm : Int}
theorem c98_eq : c_98 = ⟨3, 113, [6, 7], [.c 6 (some 3)],
  (.seq (.reg [⟨0, some 6, none, .allocP [.int .i64 0, .int .i64 0, .nils]⟩] [0, 1, 2, 6])
  (.seq (.reg [xm 0 11 1, xm 1 12 2, xi 2 13 1 11 12, xl 3 14 13, xm 4 15 1, xm 5 16 2, xi 6 17 1 15 16, xl 7 18 17, xm 8 19 0,
    ⟨9, some 20, none, .call .whole 76 [.t 19, .c (.int .i64 3)]⟩,
    ⟨2, none, none, .again 13 (.idx 1 (.t 11) (.t 12))⟩,
    ⟨3, none, none, .again 14 (.load none (.t 13))⟩,
    ⟨6, none, none, .again 17 (.idx 1 (.t 15) (.t 16))⟩,
    ⟨7, none, none, .again 18 (.load none (.t 17))⟩,
    ⟨10, some 21, none, .bin .add (.c (.int .i64 1)) (.t 20)⟩,
    ⟨11, some 22, none, .mxn true [.t 18, .t 21]⟩,
    ⟨12, some 23, none, .litO 2 []⟩,
    ⟨13, some 24, none, .build [.int .i64 0, .int .i64 0, .nils] [(0, 1, .t 14), (1, 1, .t 22), (2, 1, .t 23)]⟩,
    ⟨14, some 7, none, .allocP [.int .i64 0, .int .i64 0, .nils]⟩,
    ⟨15, none, none, .store 3 (.t 7) (.t 24)⟩] [0, 1, 6, 7])
  (.seq (.reg [⟨0, some 8, none, .mv (.c (.int .i64 (-1)))⟩] [0, 1, 6, 7, 8])
  (.seq (.seq (.reg [⟨0, some 9, none, .mv (.c (.int .i64 0))⟩] [0, 1, 6, 7, 8, 9])
  (.block 0
  (.loop l_98_0)))
  fin98a))))⟩ := rfl
theorem meth_98 (D : DS n o b g q n g) (hb : Cd b) (hq : q ≤ 50000) {ia : Nat} {la : List Int} (A : ArgsR o n g nm ia la) (self : Int) (h0 : 0 ≤ self) (h1 : self < nm) {a : Int} (ha : la[self.toNat]? = some a) :
    Rn (run AP mt 98 [.ptr o 0 0, .slice ia 0 la.length, vi self] ⟨n, g⟩) (MQ o b (q + 50) n g nm a) := by
  obtain ⟨a', ha', a0, a1⟩ := A.get h0 h1
  rw [ha] at ha'
  injection ha' with ha'
  subst ha'
  have hl := A.len
  have ixf : ∀ {g' : Heap'}, ArgsR o n g' nm ia la → idxV 1 (.slice ia 0 la.length) (vi self) g' = some (.ptr ia self.toNat 0) := by
    intro g' A'
    have := idx_slice (z := 1) (k := .i64) (off := 0) (len := la.length) (e := [vi a]) h0 (by omega) A'.at_ (by simp [ha]) rfl
    simpa using this
  have i0 := ixf A
  have t0 := A.at_
  rw [run_evS AP_98 _ _ rfl]
  simp only [c98_eq]
  simp [i0, t0, ha]
  refine bindR (P := fun y => Rn y _) (D.pick hb (by omega) 3 (by omega)) ?_
  rintro w G ⟨y, g1, rfl, rfl, y0, y1, -, D1, k1⟩
  have y2 := y1 (by omega)
  have A1 := A.keep (Nat.le_refl _) (fun id h1 h2 => k1 id h2)
  have i1 := ixf A1
  have t1 := A1.at_
  have hw : IntKind.i64.wrap (1 + y) = 1 + y := wrap_id (by omega) (by omega)
  simp [i1, t1, ha, hw]
  obtain ⟨t, ht, t2, t3, t4⟩ : ∃ t, (if a < 1 + y then 1 + y else a) = t ∧ 1 ≤ t ∧ t ≤ 4 ∧ a ≤ t := by
    refine ⟨_, rfl, ?_, ?_, ?_⟩ <;> split <;> omega
  rw [ht]
  refine loop_98 (nm := nm) (q := q + 1) (g := g1) (t := t) hb (by omega) ⟨t2, t3⟩ A1 (fun s G hi => ?_) .nils (-1) _ ⟨[], n, g1, rfl, ⟨D1.start.mono (by omega) (Nat.le_refl _), .nil, by simp, by simp⟩, .inl rfl⟩
  obtain ⟨l, n', g', rfl, W, hsk⟩ := hi
  have hk := W.ok
  simp [b98_eq, F98, hk.k, hk.p, hk.g]
  refine (fin_98 (a := a) (t := t) W hb (by omega) ⟨t2, t3⟩ ⟨a0, a1⟩ t4 s.2 hsk (by have := A.two; omega) ?_ ?_ ?_ ?_).imp ?_
  · simp
  · simp
  · simp
  · simp
  · rintro v G ⟨m, n2, g2, rfl, rfl, h3, h4, h5⟩
    exact ⟨m, n2, g2, rfl, rfl, (D1.join h3).mono (by omega) (Nat.le_refl _), h4, h5⟩
/-- A program is answered, one that may be. -/
def PQ (o : Nat) (b : List Nat) (q : Int) (n : Nat) (g : Heap') (v : AVal) (G : AG) : Prop := ∃ p n' g', v = aProg p ∧ G = ⟨n', g'⟩ ∧ DS n o b g q n' g' ∧ progOk p = true
theorem progOk_of {p : GProg} (hl : 1 ≤ p.length ∧ p.length ≤ 4) (h0 : ∀ m, p.head? = some m → m.args = 0) (h : ∀ m ∈ p, MethN p.length m) : progOk p = true := by
  obtain ⟨m, ms, rfl⟩ : ∃ m ms, p = m :: ms := by cases p with | nil => simp at hl | cons m ms => exact ⟨m, ms, rfl⟩
  have hm := h0 m rfl
  simp only [progOk, Bool.and_eq_true, inR_iff, decide_eq_true_eq, List.all_eq_true]
  refine ⟨⟨by omega, by omega⟩, by simpa using hm, fun x hx => ?_⟩
  have hX := h x hx
  simp only [methodOk, Bool.and_eq_true, inR_iff, decide_eq_true_eq, List.all_eq_true]
  exact ⟨hX.args, hX.temps, hX.len, fun op hop => by rw [opOk_N]; exact hX.ops op hop⟩
def Inv73 (o : Nat) (b : List Nat) (n : Nat) (g : Heap') (q : Int) (i : Nat) (v : AVal) (G : AG) : Prop := ∃ la n' g', G = ⟨n', g'⟩ ∧ DS n o b g (q + i) n' g' ∧ Ls i1 n n' la v g' ∧ la.length = i + 1 ∧ (∀ a ∈ la, 0 ≤ a ∧ a ≤ 2) ∧ la[0]? = some 0
theorem loopA_73 (hb : Cd b) (hq : q ≤ 60000) (c : Nat) (hc : c ≤ 3) {S : List KF} {Φ : AVal → AG → Prop} (v : AVal) (G : AG) (hi : Inv73 o b n g q 0 v G)
    (hx : ∀ v G, Inv73 o b n g q c v G → Rn (unw AP mt (.exit 0) (upd (upd (upd (upd (upd fr0 12 (.bool false)) 4 (vi 0)) 3 v) 2 (.pbox [.nils])) 0 (.ptr o 0 0)) G S) Φ) :
    Rn (evS AP mt (.loop l_73_0) (upd (upd (upd (upd fr0 4 (vi c)) 3 v) 2 (.pbox [.nils])) 0 (.ptr o 0 0)) G S) Φ := by
  have key := loop_for (AP := AP) (mt := mt) (l := l_73_0) (b := b_73_0) (S := S) (fun y => Rn y Φ) c (fun i (v : AVal) => upd (upd (upd (upd fr0 4 (vi ((c : Int) - i))) 3 v) 2 (.pbox [.nils])) 0 (.ptr o 0 0))
    (Inv73 o b n g q) (fun _ _ _ => u_73_0) ?_ ?_ c 0 v G (by omega) hi
  · simpa using key
  · rintro v G ⟨la, n', g', rfl, D, L, h1, h2, h3⟩
    have hk := L.ok
    simp [b_73_0, hk.k, hk.p, hk.g]
    have := hx v ⟨n', g'⟩ ⟨la, n', g', rfl, D, L, h1, h2, h3⟩
    simpa [hk.k, hk.p, hk.g] using this
  · rintro i v G hic ⟨la, n', g', rfl, D, L, h1, h2, h3⟩ next
    have hk := L.ok
    have hcc : (0 : Int) < (c : Int) - i := by omega
    have hcc' : (i : Int) < c := by omega
    have hwr : IntKind.i64.wrap ((c : Int) - i - 1) = (c : Int) - ((i + 1 : Nat) : Int) := by rw [wrap_id (by omega) (by omega)]; omega
    simp [b_73_0, hcc, hcc', hk.k, hk.p, hk.g]
    refine bindR (P := fun y => Rn y _) (D.pick hb (by omega) 3 (by omega)) ?_
    rintro w G ⟨y, g1, rfl, rfl, y0, y1, -, D1, k1⟩
    have y2 := y1 (by omega)
    have L1 : Ls i1 n n' la v g1 := L.keep (Nat.le_refl _) (fun id e1 e2 => k1 id (by have := D.ok; omega))
    simp [hk.k, hk.p, hk.g]
    refine bindR (P := fun y => Rn y _) (L1.app D1.kn (z := 1) (bytes := 8) (fun _ => rfl) (l2 := [y]) rfl (by simp [maxA]; omega)) ?_
    rintro v' G' ⟨n7, g7, rfl, r1, r2, r3⟩
    have hk' := r2.ok
    simp [hk'.k, hk'.p, hk'.g, hwr]
    have e : q + ((i + 1 : Nat) : Int) = q + i + 1 := by omega
    have := next v' ⟨n7, g7⟩ ⟨la ++ [y], n7, g7, rfl, by rw [e]; exact D1.heap r1 r3, r2, by simp [h1], fun a ha => (List.mem_append.1 ha).elim (h2 a) (fun h => by simp at h; subst h; omega), by rw [List.getElem?_append_left (by omega)]; exact h3⟩
    simpa using this
def Inv73b (o : Nat) (b : List Nat) (n n1 : Nat) (g : Heap') (nm : Int) (ia : Nat) (la : List Int) (q : Int) (i : Nat) (v : AVal) (G : AG) : Prop :=
  ∃ ms n' g', G = ⟨n', g'⟩ ∧ DS n o b g (q + 50 * i) n' g' ∧ n1 ≤ n' ∧ Ls eMethod n1 n' ms v g' ∧ ms.length = i ∧ (∀ m ∈ ms, MethN nm m) ∧ (∀ m, ms.head? = some m → m.args = 0) ∧ g' ia = some (la.map i1)
theorem loopB_73 (hb : Cd b) (hq : q ≤ 40000) {n1 ia : Nat} {la : List Int} (hn1 : n ≤ n1) (hia : ia < n1) (hio : ia ≠ o) (hin : ∀ a ∈ la, 0 ≤ a ∧ a ≤ 2) (hlen : (la.length : Int) = nm) (htwo : 1 ≤ nm ∧ nm ≤ 4) (h0 : la[0]? = some 0) {S : List KF} {Φ : AVal → AG → Prop} (v : AVal) (G : AG) (hi : Inv73b o b n n1 g nm ia la q 0 v G)
    (hx : ∀ v G, Inv73b o b n n1 g nm ia la q la.length v G → Rn (unw AP mt (.exit 2) (upd (upd (upd (upd (upd (upd fr0 24 (.bool false)) 6 (vi la.length)) 5 (.pbox [v])) 3 (.slice ia 0 la.length)) 2 (.pbox [.nils])) 0 (.ptr o 0 0)) G S) Φ) :
    Rn (evS AP mt (.loop l_73_1) (upd (upd (upd (upd (upd fr0 6 (vi 0)) 5 (.pbox [v])) 3 (.slice ia 0 la.length)) 2 (.pbox [.nils])) 0 (.ptr o 0 0)) G S) Φ := by
  have key := loop_for (AP := AP) (mt := mt) (l := l_73_1) (b := b_73_1) (S := S) (fun y => Rn y Φ) la.length (fun i (v : AVal) => upd (upd (upd (upd (upd fr0 6 (vi i)) 5 (.pbox [v])) 3 (.slice ia 0 la.length)) 2 (.pbox [.nils])) 0 (.ptr o 0 0))
    (Inv73b o b n n1 g nm ia la q) (fun _ _ _ => u_73_1) ?_ ?_ la.length 0 v G (by omega) hi
  · simpa using key
  · rintro v G ⟨ms, n', g', rfl, D, hn, L, h1, h2, h3, h4⟩
    have hk := L.ok
    simp [b_73_1, hk.k, hk.p, hk.g]
    have := hx v ⟨n', g'⟩ ⟨ms, n', g', rfl, D, hn, L, h1, h2, h3, h4⟩
    simpa [hk.k, hk.p, hk.g] using this
  · rintro i v G hic ⟨ms, n', g', rfl, D, hn, L, h1, h2, h3, h4⟩ next
    have hk := L.ok
    have hok := D.ok
    have hcc : (i : Int) < la.length := by omega
    have hwr : IntKind.i64.wrap ((i : Int) + 1) = (i : Int) + 1 := wrap_id (by omega) (by omega)
    have A : ArgsR o n' g' nm ia la := ⟨h4, by omega, hio, hin, hlen, htwo⟩
    obtain ⟨a, ha⟩ : ∃ a, la[i]? = some a := ⟨_, List.getElem?_eq_getElem hic⟩
    simp [b_73_1, hcc, hk.k, hk.p, hk.g]
    refine bindR (P := fun y => Rn y _) (meth_98 (mt := mt) D.start hb (by omega) A i (by omega) (by omega) (a := a) (by simpa using ha)) ?_
    rintro w G ⟨m, n2, g2, rfl, rfl, D2, hm, hma⟩
    have hn2 := D2.kn
    have L2 : Ls eMethod n1 n2 ms v g2 := L.keep hn2 (fun id e1 e2 => D2.z id e2 (by omega))
    have e2 : g2 ia = some (la.map i1) := (D2.z ia (by omega) hio).trans h4
    simp [hk.k, hk.p, hk.g]
    refine bindR (P := fun y => Rn y _) (L2.app (by omega) (z := 3) (bytes := 40) (fun _ => rfl) (l2 := [m]) rfl (by simp [maxA]; omega)) ?_
    rintro v' G' ⟨n7, g7, rfl, r1, r2, r3⟩
    have hk' := r2.ok
    simp [hk'.k, hk'.p, hk'.g, hk'.c, hwr]
    have e : q + 50 * ((i + 1 : Nat) : Int) = q + 50 * i + 50 := by omega
    have := next v' ⟨n7, g7⟩ ⟨ms ++ [m], n7, g7, rfl, by rw [e]; exact (D.join D2).heap r1 (fun id hid => r3 id (by omega)), by omega, r2, by simp [h1], fun x hx => (List.mem_append.1 hx).elim (h2 x) (fun h => by simp at h; subst h; exact hm), ?_, by rw [r3 ia hia]; exact e2⟩
    · simpa using this
    · intro x hx
      cases ms with
      | nil =>
        simp at h1
        subst h1
        simp at hx
        subst hx
        rw [hma]
        rw [h0] at ha
        injection ha with ha
        exact ha.symm
      | cons y ys => exact h3 x (by simpa using hx)
theorem prog_73 (D : DS n o b g q n g) (hb : Cd b) (hq : q ≤ 30000) : Rn (run AP mt 73 [.ptr o 0 0] ⟨n, g⟩) (PQ o b (q + 300) n g) := by
  rw [run_evS AP_73 _ _ rfl]
  simp [c_73]
  have D1 : DS n o b g q (n + 1) (updO g n (some [[vi 0]])) := D.heap (by omega) (fun id hid => by simp only [updO]; rw [if_neg (by omega)])
  refine bindR (P := fun y => Rn y _) (D1.pick hb (by omega) 3 (by omega)) ?_
  rintro w G ⟨y, g1, rfl, rfl, y0, y1, -, D2, k1⟩
  have y2 := y1 (by omega)
  have hw : IntKind.i64.wrap (1 + y) = 1 + y := wrap_id (by omega) (by omega)
  have hok := D.ok
  obtain ⟨c, hc⟩ : ∃ c : Nat, 1 + y = c := ⟨(1 + y).toNat, by omega⟩
  rw [hc] at hw
  simp [hw, hc]
  refine loopA_73 (n := n) (g := g) (q := q + 1) hb (by omega) c (by omega) (.slice n 0 1) _ ⟨[0], n + 1, g1, rfl, D2.mono (by omega) (Nat.le_refl _), .inr ⟨by simp, n, Nat.le_refl _, by omega, rfl, by rw [k1 n (by omega)]; simp [updO]⟩, rfl, by simp, rfl⟩ (fun v G hi => ?_)
  obtain ⟨la, n1, g2, rfl, D3, L3, h1, h2, h3⟩ := hi
  rcases L3 with ⟨rfl, _⟩ | ⟨hne, ia, i0, i1', rfl, i4⟩
  · simp at h1
  simp
  refine loopB_73 (n := n) (g := g) (q := q + 4) (nm := la.length) hb (by omega) (n1 := n1) D3.kn i1' (by omega) h2 rfl (by omega) h3 .nils _ ⟨[], n1, g2, rfl, D3.mono (by omega) (Nat.le_refl _), Nat.le_refl _, .nil, rfl, by simp, by simp, i4⟩ (fun v G hi => ?_)
  obtain ⟨ms, n5, g5, rfl, D5, hn5, L5, h4, h5, h6, h7⟩ := hi
  rcases L5 with ⟨rfl, _⟩ | ⟨hne5, id, j0, j1, rfl, j4⟩
  · simp at h4; omega
  have htk : (ms.map eMethod).take ms.length = ms.map eMethod := List.take_of_length_le (by simp)
  simp [j4, htk]
  refine .mk ⟨ms, n5, _, rfl, rfl, (D5.mono (by omega) (Nat.le_refl _)).heap (Nat.le_refl _) (fun j hj => by simp only [updO]; rw [if_neg (by have := D3.kn; omega)]), progOk_of (by omega) h6 (by rw [h4]; exact h5)⟩
end
end Go.Ai
set_option linter.unusedSimpArgs false
set_option linter.unusedVariables false
namespace Go.Ai
variable {mt : Nat → Nat → Option Nat}
attribute [local simp] cnd_ite gS_ite callBy_whole
/-! ## calls never become fewer -/
theorem push_len (h : GHeap) (v : GVal) : (pushS h v).calls.length = h.calls.length := by unfold pushS; split <;> simp
theorem setT_len (h : GHeap) (i a : Nat) (v : GVal) : (setT h i a v).calls.length = h.calls.length := by
  unfold setT
  split
  · split <;> simp
  · rfl
theorem setPc_len (h : GHeap) (a : Int) : (setPc h a).calls.length = h.calls.length := by unfold setPc; split <;> simp
theorem unw_len : ∀ (f : Nat) (h : GHeap) (to : Int), (unwS f h to).calls.length = h.calls.length := by
  intro f
  induction f with
  | zero => intro h to; rfl
  | succ f ih =>
    intro h to
    unfold unwS
    split
    · rfl
    · rw [ih, leave_len]
theorem do_len (p : GProg) (op : GOp) (as : List GVal) (h : GHeap) : h.calls.length ≤ (doS p op as h).calls.length := by
  by_cases h1 : op.kind = 1
  · rw [doS_1 h1, push_len]; exact Nat.le_refl _
  by_cases h2 : op.kind = 2
  · rw [doS_2 h2, push_len]; exact Nat.le_refl _
  by_cases h3 : op.kind = 3
  · rw [doS_3 h3, setT_len]; exact Nat.le_refl _
  by_cases h5 : op.kind = 5
  · rw [doS_5 h5, push_len]; exact Nat.le_refl _
  by_cases h6 : op.kind = 6
  · rw [doS_6 h6, push_len]; exact Nat.le_refl _
  by_cases h7 : op.kind = 7
  · rw [doS_7 h7, setPc_len]; exact Nat.le_refl _
  by_cases h8 : op.kind = 8
  · rw [doS_8 h8]; split
    · rw [setPc_len]; exact Nat.le_refl _
    · exact Nat.le_refl _
  by_cases h9 : op.kind = 9
  · rw [doS_9 h9]; unfold callS; split
    · exact Nat.le_refl _
    · split
      · simp
      · exact Nat.le_refl _
  by_cases h10 : op.kind = 10
  · rw [doS_10 h10]; unfold retS'
    dsimp only
    split
    · show h.calls.length ≤ (leaveS h).calls.length
      rw [leave_len]; exact Nat.le_refl _
    · rw [push_len, leave_len]; exact Nat.le_refl _
  by_cases h11 : op.kind = 11
  · rw [doS_11 h11, push_len]; exact Nat.le_refl _
  by_cases h12 : op.kind = 12
  · rw [doS_12 h12, push_len]; exact Nat.le_refl _
  by_cases h13 : op.kind = 13
  · rw [doS_13 h13, push_len]; exact Nat.le_refl _
  by_cases h14 : op.kind = 14
  · rw [doS_14 h14, setT_len]; exact Nat.le_refl _
  by_cases h15 : op.kind = 15
  · rw [doS_15 h15]; unfold backS; split
    · exact Nat.le_refl _
    · rw [push_len, unw_len]; exact Nat.le_refl _
  by_cases h16 : op.kind = 16
  · rw [doS_16 h16]; exact Nat.le_refl _
  by_cases h17 : op.kind = 17
  · rw [doS_17 h17, push_len]; exact Nat.le_refl _
  by_cases h18 : op.kind = 18
  · rw [doS_18 h18, push_len]; exact Nat.le_refl _
  have : doS p op as h = h := by simp [doS, h1, h2, h3, h5, h6, h7, h8, h9, h10, h11, h12, h13, h14, h15, h16, h17, h18]
  rw [this]; exact Nat.le_refl _
theorem step_len (p : GProg) (h : GHeap) : h.calls.length ≤ (stepS p h).calls.length := by
  unfold stepS
  split
  · exact Nat.le_refl _
  split
  · exact Nat.le_refl _
  split
  · exact Nat.le_refl _
  split
  · exact Nat.le_refl _
  dsimp only
  split
  · exact Nat.le_trans (by simp) (do_len _ _ _ _)
  · exact Nat.le_refl _
theorem run_len (p : GProg) : ∀ (f : Nat) (h : GHeap), h.calls.length ≤ (runS p f h).calls.length := by
  intro f
  induction f with
  | zero => intro h; exact Nat.le_refl _
  | succ f ih =>
    intro h
    unfold runS
    split
    · exact Nat.le_trans (step_len p h) (ih _)
    · exact Nat.le_refl _
/-! ## a new heap -/
def newH (p : GProg) : GHeap := match p with
  | m :: _ => ⟨[newC m 0 [] (-1)], 0, 1, [], 0⟩
  | [] => zeroH
theorem prog_cons {p : GProg} (h : progOk p = true) : ∃ m ms, p = m :: ms ∧ m.args = 0 ∧ (0 ≤ m.temps ∧ m.temps ≤ 4) ∧ p.length ≤ 4 ∧ ShP p := by
  have h0 := h
  simp only [progOk, Bool.and_eq_true, inR_iff, decide_eq_true_eq, List.all_eq_true] at h
  obtain ⟨⟨h1, h2⟩, h3, h4⟩ := h
  cases p with
  | nil => simp at h1
  | cons m ms =>
    have hm := method_iff.1 (h4 m (List.mem_cons_self ..))
    refine ⟨m, ms, rfl, by simpa using h3, by omega, by omega, by omega, fun x hx => ?_⟩
    have := (method_iff.1 (h4 x hx)).2.2.1
    omega
theorem newH_ok {p : GProg} (h : progOk p = true) : heapOkS p (newH p) = true := by
  obtain ⟨m, ms, rfl, h1, h2, h3, h4⟩ := prog_cons h
  have hlen : (([] : List GVal) ++ List.replicate (m.temps - (([] : List GVal).length : Int)).toNat v0).length = m.temps.toNat := by simp
  refine ok_of (l := [0]) ⟨h, by simp [newH], by simp [newH], by simp [newH], by simp [newH], by simp [newH], by simp [newH], ?_, ?_, ?_, by simp⟩
  · intro c hc
    simp only [newH, List.mem_singleton] at hc
    subst hc
    rw [frm_iff]
    refine ⟨m, ⟨by simp [newC], by simp [newC]⟩, by simp [newC], ⟨by simp [newC], by simp [newC]⟩, ?_, by simp [newC], ⟨by simp [newC], by simp [newC, newH]⟩, fun v hv => ?_, by simp [newC], by simp [newC]⟩
    · simp only [newC, hlen]; omega
    · simp only [newC, List.nil_append, List.mem_replicate] at hv
      rw [hv.2]; exact valOk_v0
  · exact .cons (c := newC m 0 [] (-1)) (Int.le_refl _) (by simp [newH]) rfl (.nil (by simp [newC]))
  · intro i c hc hd
    simp only [newH] at hc
    cases i with
    | zero => simp
    | succ i => simp at hc
theorem s_74 (p : GProg) (h : progOk p = true) : Q mt 74 [aProg p] (.tuple [aHeap (newH p), .bool true]) := by
  obtain ⟨m, ms, rfl, h1, h2, h3, h4⟩ := prog_cons h
  have q := r_54 (mt := mt) (m :: ms) h4
  unfold Q at q
  refine Q.of rfl (fun k => ?_)
  rw [run_evS AP_74 _ _ rfl]
  generalize hN : nxt AP mt 54 [aProg (m :: ms)] k = N
  have hkN : k ≤ N := by rw [← hN]; exact nxt_le
  obtain ⟨tv, kv, n1, g1, o1, a1, a2, a3, a4, a5, a6, a7, a8⟩ := call_99 (mt := mt) (m :: ms) 0 m [] (-1) ⟨by omega, by simp⟩ rfl (by omega) (by simp) N noObj []
  have b1 : callBy (run AP mt) (.alone false false) 99 [aProg (m :: ms), vi 0, .nils, vi (-1)] ⟨N, noObj⟩ = some (.agg [vi 0, vi 0, tv, kv, vi (-1), .bool false], ⟨n1, g1⟩) := by
    rw [← a1]
    have e1 : frzs noObj [aProg (m :: ms), vi 0, .nils, vi (-1)] = some [aProg (m :: ms), vi 0, lVal [], vi (-1)] := rfl
    have e2 : frzs noObj [aProg (m :: ms), vi 0, lVal [], vi (-1)] = some [aProg (m :: ms), vi 0, lVal [], vi (-1)] := rfl
    unfold callBy
    simp only [Bool.false_eq_true, if_false, e1, e2]
  simp [c_74, q, h, hN, b1, a7.k, a7.g, a7.p, a7.c, a8.k, a8.g, a8.p, a8.c]
  refine Gv.some (by omega) ?_
  have K : Keep g1 o1 (updO g1 n1 (some [[vi 0, vi 0, tv, kv, vi (-1), .bool false]])) o1 (fun _ _ => True) := Keep.refl.upd (fun q hq => by have := (a4 n1 q hq).2.1; omega)
  have e1 := (a5.mono (K.mono fun _ _ _ _ => trivial)).frz 5 (by simp [dep])
  have e2 := (a6.mono (K.mono fun _ _ _ _ => trivial)).frz 5 (by simp [dep])
  generalize hG : updO g1 n1 (some [[vi 0, vi 0, tv, kv, vi (-1), .bool false]]) = G1 at *
  have hg : G1 n1 = some [[vi 0, vi 0, tv, kv, vi (-1), .bool false]] := by rw [← hG]; simp [updO]
  have ei : ∀ d n, frz (d + 1) G1 (vi n) = some (vi n) := fun _ _ => rfl
  have eb : ∀ d n, frz (d + 1) G1 (.bool n) = some (.bool n) := fun _ _ => rfl
  have el : frz 6 G1 (.slice n1 0 1) = some (lCall [newC m 0 [] (-1)]) := by
    show ((G1 n1).bind fun es => if 0 + 1 ≤ es.length then (omap (omap (frz 5 G1)) ((es.drop 0).take 1)).map AVal.list else none) = _
    rw [hg]
    simp only [newC] at e1 e2
    simp [omap, e1, e2, ei 4, eb 4, newC]
  have ea : frz 7 G1 (.agg [.slice n1 0 1, vi 0, vi 1, .nils, vi 0]) = some (aHeap (newH (m :: ms))) := by
    have en : frz 6 G1 .nils = some (.list []) := rfl
    show (omap (frz 6 G1) _).map AVal.agg = _
    simp [omap, el, ei 5, en, newH]
  show (omap (frz 7 G1) _).map AVal.tuple = _
  simp [omap, ea, eb 6]
end Go.Ai
