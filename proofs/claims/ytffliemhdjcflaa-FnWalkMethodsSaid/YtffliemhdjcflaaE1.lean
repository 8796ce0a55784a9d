/- Draws: a heap, some spoilt. Heaps compared by the laws. The program's runs of a heap. -/
import Derived.Test.YtffliemhdjcflaaD9
import Derived.Test.YtffliemhdjcflaaD7
set_option linter.unusedSimpArgs false
set_option linter.unusedVariables false
namespace Go.Ai
variable {mt : Nat → Nat → Option Nat}
attribute [local simp] cnd_ite gS_ite callBy_whole
structure SmallH (h : GHeap) : Prop where
  l : h.calls.length ≤ 60
  c : ∀ c ∈ h.calls, c.temps.length ≤ 60 ∧ c.stack.length ≤ 60
  s : h.said.length ≤ 200
theorem SmallH.sh {h : GHeap} (s : SmallH h) : ShH h := ⟨by have := s.l; omega, fun c hc => by have := s.c c hc; omega, by have := s.s; omega⟩
theorem omap_map {α β : Type} {f f' : α → Option β} : ∀ {l : List α} {l' : List β}, omap f l = some l' → (∀ x y, f x = some y → f' x = some y) → omap f' l = some l' := by
  intro l
  induction l with
  | nil => intro l' h _; exact h
  | cons x xs ih =>
    intro l' h hf
    simp only [omap, Option.bind_eq_some_iff] at h
    obtain ⟨y, hy, ys, hys, h⟩ := h
    simp only [omap, hf x y hy, ih hys hf, Option.bind_some]
    exact h
theorem omap_drop {α β : Type} {f : α → Option β} : ∀ {l : List α} {l' : List β} (k : Nat), omap f l = some l' → omap f (l.drop k) = some (l'.drop k) := by
  intro l
  induction l with
  | nil => intro l' k h; simp only [omap] at h; injection h with h; subst h; simp [omap]
  | cons x xs ih =>
    intro l' k h
    simp only [omap, Option.bind_eq_some_iff] at h
    obtain ⟨y, hy, ys, hys, h⟩ := h
    injection h with h
    subst h
    cases k with
    | zero => simp only [List.drop_zero, omap, hy, hys, Option.bind_some]
    | succ k => simpa using ih k hys
/-- What is read stays so in a heap that has more. -/
theorem frz_more {g g' : Heap'} (hg : ∀ id es, g id = some es → g' id = some es) : ∀ (d : Nat) (v x : AVal), frz d g v = some x → frz d g' v = some x := by
  intro d
  induction d with
  | zero => intro v x h; cases h
  | succ d ih =>
    intro v x h
    have ihl : ∀ {l l' : List AVal}, omap (frz d g) l = some l' → omap (frz d g') l = some l' := fun h => omap_map h (fun a b => ih a b)
    have ihll : ∀ {l l' : List (List AVal)}, omap (omap (frz d g)) l = some l' → omap (omap (frz d g')) l = some l' := fun h => omap_map h (fun a b h => ihl h)
    cases v <;> simp only [frz, Option.bind_eq_some_iff, Option.map_eq_some_iff] at h ⊢ <;> try exact h
    case ptr id i c => obtain ⟨es, h1, y, h2, h3⟩ := h; exact ⟨es, hg _ _ h1, y, ihll h2, h3⟩
    case slice id off len =>
      obtain ⟨es, h1, h2⟩ := h
      refine ⟨es, hg _ _ h1, ?_⟩
      split at h2
      · rename_i hf
        simp only [Option.map_eq_some_iff] at h2
        obtain ⟨y, h2, h3⟩ := h2
        rw [if_pos hf, ihll h2, ← h3]; rfl
      · cases h2
    case func f caps => obtain ⟨y, h2, h3⟩ := h; exact ⟨y, ihl h2, h3⟩
    case iface t v => obtain ⟨y, h2, h3⟩ := h; exact ⟨y, ih _ _ h2, h3⟩
    case agg cs => obtain ⟨y, h2, h3⟩ := h; exact ⟨y, ihl h2, h3⟩
    case tuple vs => obtain ⟨y, h2, h3⟩ := h; exact ⟨y, ihl h2, h3⟩
section
variable {o : Nat} {b : List Nat} {q : Int} {n : Nat} {g : Heap'}
theorem call_75 (p : GProg) (hp : progOk p = true) (x : Int) (hx : 0 ≤ x ∧ x < 90) (n : Nat) (g : Heap') : ∃ h cv sv n1 g1 ow l, callBy (run AP mt) (.alone false false) 75 [aProg p, aHeap (newH p), vi x] ⟨n, g⟩ = some (.tuple [.agg [cv, vi h.now, vi h.born, sv, vi h.code], .bool true], ⟨n1, g1⟩) ∧ n ≤ n1 ∧
    Own g1 ow [0] (lCall h.calls) cv ∧ Own g1 ow [1] (lVal h.said) sv ∧ (∀ id q, ow id = some q → n ≤ id ∧ id < n1 ∧ ([0] <+: q ∨ [1] <+: q)) ∧ (∀ id, id < n → g1 id = g id) ∧ WF p h l ∧ 1 ≤ h.calls.length ∧ h.said.length ≤ 90 := by
  obtain ⟨m, ms, hpe, h1, h2, h3, h4⟩ := prog_cons hp
  have hok := newH_ok hp
  have w := wf_of hok
  have hh : ShH (newH p) := w.sh (by subst hpe; simp [newH])
  have hr : runR p (newH p) x = (runS p x.toNat (newH p), true) := by
    unfold runR
    rw [if_pos ⟨hok, inR_iff.2 ⟨hx.1, by omega⟩⟩]
  obtain ⟨cv, sv, m1, g1, ow, e1, e2, e3, e4, e5, e6⟩ := s_75 (mt := mt) (A := [0]) (B := [1]) p (newH p) x h4 hh djx n
  rw [hr] at e1 e3 e4
  dsimp only at e1 e3 e4
  obtain ⟨l', w'⟩ := run_wf x.toNat w
  have hsd := run_said x.toNat w
  have hln := run_len p x.toNat (newH p)
  have hl1 : (newH p).calls.length = 1 := by subst hpe; simp [newH]
  have hs0 : (newH p).said.length = 0 := by subst hpe; simp [newH]
  have K : Keep g1 ow (ovr g g1) ow (fun _ _ => True) := fun j q hj _ => ⟨fun es he => ovr_some he, hj⟩
  refine ⟨runS p x.toNat (newH p), cv, sv, m1, ovr g g1, ow, l', ?_, e2, e3.mono (K.mono fun _ _ _ _ => trivial), e4.mono (K.mono fun _ _ _ _ => trivial), e5, fun id hid => ovr_none (e6 id hid), w', by omega, by omega⟩
  have hf : frzs noObj [aProg p, aHeap (newH p), vi x] = some [aProg p, aHeap (newH p), vi x] := rfl
  unfold callBy
  simp [hf, e1, e2]
/-- A program and a heap are answered. -/
def HQ (o : Nat) (b : List Nat) (q : Int) (n : Nat) (g : Heap') (v : AVal) (G : AG) : Prop := ∃ p h cv sv n' g', v = .tuple [aProg p, .agg [cv, vi h.now, vi h.born, sv, vi h.code]] ∧ G = ⟨n', g'⟩ ∧ DS n o b g q n' g' ∧ progOk p = true ∧ SmallH h ∧
  frz 6 (updO g' o none) cv = some (lCall h.calls) ∧ frz 6 (updO g' o none) sv = some (lVal h.said) ∧ Ok1 cv ∧ Ok1 sv
/-- What lies below o is not looked at. -/
theorem frz_own {g' : Heap'} {ow : Ow} {A : List Nat} {a v : AVal} (h : Own g' ow A a v) (ho : ow o = none) (hd : dep 6 a = true) : frz 6 (updO g' o none) v = some a :=
  (h.mono (Keep.refl.upd (fun q hq => by rw [ho] at hq; cases hq))).frz 6 hd
def fin44 : AC := (.seq (.reg [xL 0 101 1 4, xL 1 102 5 5,
    ⟨2, none, none, .store 1 (.t 2) (.t 101)⟩,
    ⟨1, none, none, .again 102 (.load (some 5) (.t 5))⟩,
    ⟨3, none, none, .store 5 (.t 3) (.t 102)⟩] [2, 3])
  .ret)
theorem c44_eq : c_44 = ⟨1, 103, [2, 3, 4, 5], [.c 2 (some 1), .c 3 (some 5)],
  (.seq (.reg [⟨0, some 2, none, .allocP [.nils]⟩,
    ⟨1, some 3, none, .allocP [.nils, .int .i64 0, .int .i64 0, .nils, .int .i64 0]⟩] [0, 2, 3])
  (.seq (.reg [xm 0 7 0,
    ⟨1, some 8, none, .call .whole 73 [.t 7]⟩,
    ⟨2, some 4, none, .allocP [.nils]⟩,
    ⟨3, none, none, .store 1 (.t 4) (.t 8)⟩] [0, 2, 3, 4])
  (.seq (.reg [xL 0 10 1 4,
    ⟨1, some 11, none, .call (.alone false true) 74 [.t 10]⟩, xm 2 9 11,
    ⟨3, some 12, none, .ext (.t 9) 0⟩,
    ⟨4, some 13, none, .ext (.t 9) 1⟩,
    ⟨5, some 5, none, .allocP [.nils, .int .i64 0, .int .i64 0, .nils, .int .i64 0]⟩,
    ⟨6, none, none, .store 5 (.t 5) (.t 12)⟩, xm 7 6 13] [0, 2, 3, 4, 5])
  (.seq (.reg [xL 0 15 1 4, xL 1 16 5 5, xm 2 17 0,
    ⟨3, some 18, none, .call .whole 76 [.t 17, .c (.int .i64 90)]⟩,
    ⟨0, none, none, .again 15 (.load (some 1) (.t 4))⟩,
    ⟨1, none, none, .again 16 (.load (some 5) (.t 5))⟩,
    ⟨4, some 19, none, .call (.alone false false) 75 [.t 15, .t 16, .t 18]⟩, xm 5 14 19,
    ⟨6, some 20, none, .ext (.t 14) 0⟩,
    ⟨7, some 21, none, .ext (.t 14) 1⟩,
    ⟨8, none, none, .store 5 (.t 5) (.t 20)⟩] [0, 2, 3, 4, 5])
  (.seq (.seq (.reg [xm 0 22 0,
    ⟨1, some 23, none, .call .whole 76 [.t 22, .c (.int .i64 14)]⟩,
    ⟨2, some 24, none, .bin .gtr (.t 23) (.c (.int .i64 0))⟩] [0, 2, 3, 4, 5, 24])
  (.cond (.t 24)
  (.seq (.reg [xL 0 25 1 4, xL 1 26 5 5,
    ⟨2, none, none, .store 1 (.t 2) (.t 25)⟩,
    ⟨1, none, none, .again 26 (.load (some 5) (.t 5))⟩,
    ⟨3, none, none, .store 5 (.t 3) (.t 26)⟩] [2, 3])
  .ret)
  .skip))
  (.seq (.seq (.reg [xm 0 27 0,
    ⟨1, some 28, none, .call .whole 76 [.t 27, .c (.int .i64 8)]⟩] [0, 2, 3, 4, 5, 28])
  (.block 0
  (.seq (.reg [⟨0, some 34, none, .bin .eql (.t 28) (.c (.int .i64 0))⟩, xm 1 33 34] [0, 2, 3, 4, 5, 28, 33])
  (.cond (.t 33)
  (.reg [xm 0 35 0, xf 1 36 0 5, xl 2 37 36,
    ⟨3, some 38, none, .len (.t 37)⟩,
    ⟨4, some 39, none, .bin .add (.t 38) (.c (.int .i64 2))⟩,
    ⟨5, some 40, none, .call .whole 76 [.t 35, .t 39]⟩,
    ⟨6, some 41, none, .bin .sub (.t 40) (.c (.int .i64 1))⟩, xf 7 42 1 5,
    ⟨8, none, none, .store 1 (.t 42) (.t 41)⟩] [2, 3, 4, 5])
  (.seq (.reg [⟨0, some 44, none, .bin .eql (.t 28) (.c (.int .i64 1))⟩, xm 1 43 44] [0, 2, 3, 4, 5, 28, 43])
  (.cond (.t 43)
  (.reg [⟨0, some 45, none, .litI 1 [.c (.int .i64 0), .c (.int .i64 31)]⟩, xm 1 46 0,
    ⟨2, some 47, none, .call .whole 76 [.t 46, .c (.int .i64 2)]⟩, xi 3 48 1 45 47, xl 4 49 48, xf 5 50 2 5,
    ⟨6, none, none, .store 1 (.t 50) (.t 49)⟩] [2, 3, 4, 5])
  (.seq (.reg [⟨0, some 52, none, .bin .eql (.t 28) (.c (.int .i64 2))⟩, xm 1 51 52] [0, 2, 3, 4, 5, 28, 51])
  (.cond (.t 51)
  (.reg [xm 0 53 0,
    ⟨1, some 54, none, .call .whole 76 [.t 53, .c (.int .i64 6)]⟩,
    ⟨2, some 55, none, .bin .sub (.t 54) (.c (.int .i64 1))⟩, xf 3 56 4 5,
    ⟨4, none, none, .store 1 (.t 56) (.t 55)⟩] [2, 3, 4, 5])
  (.seq (.reg [⟨0, some 58, none, .bin .eql (.t 28) (.c (.int .i64 3))⟩, xm 1 57 58] [2, 3, 4, 5, 28, 57])
  (.cond (.t 57)
  (.reg [xf 0 59 0 5, xl 1 60 59, xf 2 61 0 5, xl 3 62 61,
    ⟨4, some 63, none, .idx 6 (.t 62) (.c (.int .i64 0))⟩, xf 5 64 5 63, xl 6 65 64,
    ⟨7, some 66, none, .nt (.t 65)⟩,
    ⟨8, some 67, none, .idx 6 (.t 60) (.c (.int .i64 0))⟩, xf 9 68 5 67,
    ⟨10, none, none, .store 1 (.t 68) (.t 66)⟩] [2, 3, 4, 5])
  (.seq (.reg [⟨0, some 70, none, .bin .eql (.t 28) (.c (.int .i64 4))⟩, xm 1 69 70] [2, 3, 4, 5, 28, 69])
  (.cond (.t 69)
  (.reg [xf 0 71 0 5, xl 1 72 71, xf 2 73 0 5, xl 3 74 73,
    ⟨4, some 75, none, .idx 6 (.t 74) (.c (.int .i64 0))⟩, xf 5 76 2 75, xl 6 77 76,
    ⟨7, some 78, none, .build [.int .i64 0, .int .i64 0] []⟩,
    ⟨8, some 79, none, .litI 2 [.t 78]⟩,
    ⟨9, some 80, none, .app 2 16 (.t 77) (.t 79)⟩,
    ⟨1, none, none, .again 72 (.load none (.t 71))⟩,
    ⟨10, some 81, none, .idx 6 (.t 72) (.c (.int .i64 0))⟩, xf 11 82 2 81,
    ⟨12, none, none, .store 1 (.t 82) (.t 80)⟩] [2, 3, 4, 5])
  (.seq (.reg [⟨0, some 84, none, .bin .eql (.t 28) (.c (.int .i64 5))⟩, xm 1 83 84] [2, 3, 4, 5, 28, 83])
  (.cond (.t 83)
  (.reg [xf 0 85 0 5, xl 1 86 85, xf 2 87 0 5, xl 3 88 87,
    ⟨4, some 89, none, .len (.t 88)⟩,
    ⟨5, some 90, none, .bin .sub (.t 89) (.c (.int .i64 1))⟩,
    ⟨6, some 91, none, .idx 6 (.t 86) (.c (.int .i64 0))⟩, xf 7 92 4 91,
    ⟨8, none, none, .store 1 (.t 92) (.t 90)⟩] [2, 3, 4, 5])
  (.seq (.reg [⟨0, some 94, none, .bin .eql (.t 28) (.c (.int .i64 6))⟩, xm 1 93 94] [2, 3, 4, 5, 93])
  (.cond (.t 93)
  (.reg [xf 0 95 3 5, xl 1 96 95,
    ⟨2, some 97, none, .build [.int .i64 0, .int .i64 0] [(0, 1, .c (.int .i64 2)), (1, 1, .c (.int .i64 9))]⟩,
    ⟨3, some 98, none, .litI 2 [.t 97]⟩,
    ⟨4, some 99, none, .app 2 16 (.t 96) (.t 98)⟩, xf 5 100 3 5,
    ⟨6, none, none, .store 1 (.t 100) (.t 99)⟩] [2, 3, 4, 5])
  (.reg [xf 0 29 0 5, xl 1 30 29,
    ⟨2, some 31, none, .sl 6 (.t 30) (some (.c (.int .i64 1))) none⟩, xf 3 32 0 5,
    ⟨4, none, none, .store 1 (.t 32) (.t 31)⟩] [2, 3, 4, 5])))))))))))))))))
  fin44))))))⟩ := rfl
theorem fin_44 {p : GProg} {h : GHeap} {cv sv : AVal} {n' : Nat} {g' : Heap'} (D : DS n o b g q n' g') (hp : progOk p = true) (hs : SmallH h) (fc : frz 6 (updO g' o none) cv = some (lCall h.calls)) (fs : frz 6 (updO g' o none) sv = some (lVal h.said)) (k1 : Ok1 cv) (k2 : Ok1 sv)
    {fr : Fr} (e2 : fr 2 = .pbox [.nils]) (e3 : fr 3 = .pbox [.nils, vi 0, vi 0, .nils, vi 0]) (e4 : fr 4 = .pbox [lMethod p]) (e5 : fr 5 = .pbox [cv, vi h.now, vi h.born, sv, vi h.code]) :
    Rn (evS AP mt fin44 fr ⟨n', g'⟩ [.fin [.c 2 (some 1), .c 3 (some 5)]]) (HQ o b q n g) := by
  simp [fin44, e2, e3, e4, e5, k1.k, k1.g, k1.p, k1.c, k2.k, k2.g, k2.p, k2.c]
  exact .mk ⟨p, h, cv, sv, n', g', rfl, rfl, D, hp, hs, fc, fs, k1, k2⟩
/-- The first call is another one. -/
theorem own0 {g' g2 : Heap'} {ow ow2 : Ow} {ci : Nat} {len : Nat} {calls : List GCall} {c c' : GCall} {es : Obj'} {row : List AVal} (h : Own g' ow [0] (lCall calls) (.slice ci 0 len)) (hc : calls[0]? = some c) (he : g' ci = some es) (h2 : g2 ci = some (es.set 0 row)) (hw : ow2 ci = some [0])
    (hr : RowR g2 ow2 [0] 0 0 (eCall c') row) (hk : Keep g' ow g2 ow2 (fun _ q => ∃ k, k ≠ 0 ∧ [0] ++ [k] <+: q)) : Own g2 ow2 [0] (lCall (calls.set 0 c')) (.slice ci 0 len) := by
  have hl := (List.getElem?_eq_some_iff.1 hc).1
  have := Own.setRow (i := 0) h he (by simpa using hl) h2 hw hr hk
  have e : (calls.map eCall).set 0 (eCall c') = (calls.set 0 c').map eCall := by rw [List.map_set]
  unfold lCall
  rw [← e]
  exact this
/-- The first call in memory. -/
theorem call0 {g' : Heap'} {ow : Ow} {calls : List GCall} {cv : AVal} {c : GCall} (h : Own g' ow [0] (lCall calls) cv) (hc : calls[0]? = some c) : ∃ ci es tv kv, cv = .slice ci 0 calls.length ∧ ow ci = some [0] ∧ g' ci = some es ∧ es.length = calls.length ∧
    es[0]? = some [vi c.method, vi c.pc, tv, kv, vi c.sender, .bool c.dead] ∧ Own g' ow [0, 0, 2] (lVal c.temps) tv ∧ Own g' ow [0, 0, 3] (lVal c.stack) kv := by
  rcases h.list_inv with ⟨e, _⟩ | ⟨hne, id, es, h1, h2, h3, h4, h5⟩
  · have := List.map_eq_nil_iff.1 e; subst this; simp at hc
  · obtain ⟨row, r1, r2⟩ := h5 0 (eCall c) (by simp [hc])
    rw [List.length_map] at h1
    match row, r2 with
    | [x0, x1, x2, x3, x4, x5], ⟨p0, p1, p2, p3, p4, p5, _⟩ =>
      have e := own_scal_inv (by rfl) p0
      subst e
      have e := own_scal_inv (by rfl) p1
      subst e
      have e := own_scal_inv (by rfl) p4
      subst e
      have e := own_scal_inv (by rfl) p5
      subst e
      exact ⟨id, es, x2, x3, h1, h2, h3, by simpa using h4, r1, by simpa using p2, by simpa using p3⟩
theorem own_pick {g' g2 : Heap'} {ow : Ow} {A : List Nat} {a v : AVal} (h : Own g' ow A a v) (ho : ow o = none) (k : ∀ id, id ≠ o → g2 id = g' id) : Own g2 ow A a v :=
  h.mono (fun j q hj _ => ⟨fun es he => by rw [k j (fun e => by rw [e, ho] at hj; cases hj)]; exact he, hj⟩)
/-- A value put behind a list of one's own. -/
def OAQ (ow : Ow) (q : List Nat) (l : List GVal) (n' : Nat) (g' : Heap') (v : AVal) (G : AG) : Prop := ∃ n2 g2 id2, G = ⟨n2, g2⟩ ∧ n' ≤ n2 ∧ v = .slice id2 0 l.length ∧ n' ≤ id2 ∧ id2 < n2 ∧ g2 id2 = some (l.map eVal) ∧ ∀ id, id < n' → ow id ≠ some q → g2 id = g' id
theorem own_app {g' : Heap'} {ow : Ow} {A : List Nat} {l : List GVal} {tv : AVal} {n' : Nat} (h : Own g' ow A (lVal l) tv) (f : ∀ id s, ow id = some s → id < n') (x : GVal) (hl : l.length ≤ 1000) : Rn (appV 2 16 tv (.list [[vi x.kind, vi x.num]]) ⟨n', g'⟩) (OAQ ow A (l ++ [x]) n' g') := by
  have key : ∀ k n1, Ls eVal k n1 l tv g' → k ≤ n1 → n1 ≤ n' → (∀ id, id < n' → ow id ≠ some A → id < k ∨ n1 ≤ id) → Rn (appV 2 16 tv (.list [[vi x.kind, vi x.num]]) ⟨n', g'⟩) (OAQ ow A (l ++ [x]) n' g') := by
    intro k n1 hL h1 h2 h3
    refine (hL.app2 h1 h2 (z := 2) (bytes := 16) (fun _ => rfl) (l2 := [x]) rfl (by simp [maxA]; omega)).imp ?_
    rintro v G ⟨n2, g2, rfl, r1, r2, r3⟩
    rcases r2 with ⟨e, _⟩ | ⟨_, id, i0, i1, rfl, i4⟩
    · simp at e
    · exact ⟨n2, g2, id, rfl, r1, rfl, i0, i1, i4, fun j hj hw => r3 j (h3 j hj hw) hj⟩
  rcases h.flat (sVal l) with ⟨e, rfl⟩ | ⟨hne, id, rfl, hw, hg⟩
  · have := List.map_eq_nil_iff.1 e
    subst this
    exact key 0 0 .nil (Nat.le_refl _) (Nat.zero_le _) (fun id _ _ => .inr (Nat.zero_le _))
  · rw [List.length_map] at *
    exact key id (id + 1) (.inr ⟨by simpa using hne, id, Nat.le_refl _, by omega, rfl, hg⟩) (by omega) (f id A hw) (fun j _ hj => by
      have : j ≠ id := fun e => by rw [e] at hj; exact hj hw
      omega)
theorem own_one {g' : Heap'} {ow : Ow} {A : List Nat} {l : List GVal} {id : Nat} (hne : l ≠ []) (hw : ow id = some A) (hg : g' id = some (l.map eVal)) : Own g' ow A (lVal l) (.slice id 0 l.length) :=
  Own.mkFlat (sVal l) (by simpa using hne) (by simp) hw hg
theorem set_small {h : GHeap} (s : SmallH h) {c' : GCall} (hc : c'.temps.length ≤ 60 ∧ c'.stack.length ≤ 60) : SmallH { h with calls := h.calls.set 0 c' } :=
  ⟨by simpa using s.l, fun c hm => by rcases List.mem_or_eq_of_mem_set hm with h1 | rfl; exact s.c c h1; exact hc, s.s⟩
theorem dep_call (l : List GCall) : dep 6 (lCall l) = true := by simp [dep]
/-- Numbers of the first call are set. -/
theorem own_sc {g' : Heap'} {ow : Ow} {ci : Nat} {calls : List GCall} {c : GCall} {es : Obj'} {tv kv : AVal} (h : Own g' ow [0] (lCall calls) (.slice ci 0 calls.length)) (hc : calls[0]? = some c) (r1 : ow ci = some [0]) (r2 : g' ci = some es)
    (r5 : Own g' ow [0, 0, 2] (lVal c.temps) tv) (r6 : Own g' ow [0, 0, 3] (lVal c.stack) kv) (sd : Int) (d : Bool) : Own (updO g' ci (some (es.set 0 [vi c.method, vi c.pc, tv, kv, vi sd, .bool d]))) ow [0] (lCall (calls.set 0 { c with sender := sd, dead := d })) (.slice ci 0 calls.length) := by
  have K : ∀ P : Nat → List Nat → Prop, (∀ q, P ci q → q ≠ [0]) → Keep g' ow (updO g' ci (some (es.set 0 [vi c.method, vi c.pc, tv, kv, vi sd, .bool d]))) ow P := fun P hP => Keep.refl.upd (fun q hq hp => hP q hp (by rw [r1] at hq; injection hq with hq; exact hq.symm))
  refine own0 (row := [vi c.method, vi c.pc, tv, kv, vi sd, .bool d]) h hc r2 (by simp [updO]) r1 ⟨.int _ _ _, .int _ _ _, ?_, ?_, .int _ _ _, .bool _ _, trivial⟩ (K _ ?_)
  · exact r5.mono (K _ (fun q hq e => by subst e; simp at hq))
  · exact r6.mono (K _ (fun q hq e => by subst e; simp at hq))
  · rintro q ⟨k, hk, hq⟩ e
    subst e
    simp at hq
/-- What the first call keeps is longer by one. -/
theorem own_tm {g' g6 : Heap'} {ow : Ow} {ci id2 n3 : Nat} {calls : List GCall} {c : GCall} {es : Obj'} {kv : AVal} {x : GVal} (h : Own g' ow [0] (lCall calls) (.slice ci 0 calls.length)) (hc : calls[0]? = some c) (r1 : ow ci = some [0]) (r2 : g' ci = some es)
    (r6 : Own g' ow [0, 0, 3] (lVal c.stack) kv) (hn : ∀ id s, ow id = some s → id < n3) (i0 : n3 ≤ id2) (i4 : g6 id2 = some ((c.temps ++ [x]).map eVal)) (k6 : ∀ id, id < n3 → ow id ≠ some [0, 0, 2] → g6 id = g' id) :
    Own (updO g6 ci (some (es.set 0 [vi c.method, vi c.pc, .slice id2 0 (c.temps ++ [x]).length, kv, vi c.sender, .bool c.dead]))) (updW ow id2 [0, 0, 2]) [0] (lCall (calls.set 0 { c with temps := c.temps ++ [x] })) (.slice ci 0 calls.length) := by
  have hci := hn ci _ r1
  have K : ∀ P : Nat → List Nat → Prop, (∀ id q, P id q → q ≠ [0] ∧ q ≠ [0, 0, 2]) → Keep g' ow (updO g6 ci (some (es.set 0 [vi c.method, vi c.pc, .slice id2 0 (c.temps ++ [x]).length, kv, vi c.sender, .bool c.dead]))) (updW ow id2 [0, 0, 2]) P := by
    intro P hP j q hj hp
    obtain ⟨p1, p2⟩ := hP j q hp
    have hj3 := hn j q hj
    refine ⟨fun es he => ?_, ?_⟩
    · simp only [updO]
      rw [if_neg (fun e => by rw [e, r1] at hj; injection hj with hj; exact p1 hj.symm), k6 j hj3 (fun e => by rw [hj] at e; injection e with e; exact p2 e)]
      exact he
    · simp only [updW]
      rw [if_neg (by omega)]
      exact hj
  refine own0 (row := [vi c.method, vi c.pc, .slice id2 0 (c.temps ++ [x]).length, kv, vi c.sender, .bool c.dead]) h hc r2 (by simp [updO]) (by simp only [updW]; rw [if_neg (by omega)]; exact r1) ⟨.int _ _ _, .int _ _ _, ?_, ?_, .int _ _ _, .bool _ _, trivial⟩ (K _ ?_)
  · exact own_one (by simp) (by simp [updW]) (by simp only [updO]; rw [if_neg (by omega)]; exact i4)
  · exact r6.mono (K _ (fun id q hq => ⟨fun e => by subst e; simp at hq, fun e => by subst e; simp at hq⟩))
  · rintro id q ⟨k, hk, hq⟩
    refine ⟨fun e => by subst e; simp at hq, fun e => ?_⟩
    subst e
    simp at hq
    exact hk hq
theorem heap_44 (D : DS n o b g q n g) (hb : Cd b) (hq : q ≤ 20000) : Rn (run AP mt 44 [.ptr o 0 0] ⟨n, g⟩) (HQ o b (q + 310) n g) := by
  rw [run_evS AP_44 _ _ rfl]
  simp only [c44_eq]
  simp
  refine bindR (P := fun y => Rn y _) (prog_73 (mt := mt) D hb (by omega)) ?_
  rintro v G ⟨p, n1, g1, rfl, rfl, D1, hp⟩
  have q74 := s_74 (mt := mt) p hp
  unfold Q at q74
  simp [q74]
  have hN : n1 ≤ nxt AP mt 74 [aProg p] n1 := nxt_le
  generalize nxt AP mt 74 [aProg p] n1 = N at *
  have D1' := D1.mono (q' := q + 300) (Int.le_refl _) hN
  refine bindR (P := fun y => Rn y _) (D1'.pick hb (by omega) 90 (by omega)) ?_
  rintro w G ⟨x, g2, rfl, rfl, x0, x1, -, D2, k2⟩
  have x2 := x1 (by omega)
  obtain ⟨h, cv, sv, n3, g3, ow, l, e1, e2, e3, e4, e5, e6, w, hc1, hs90⟩ := call_75 (mt := mt) p hp x ⟨x0, x2⟩ N g2
  have ok1 := ok1_list e3
  have ok2 := ok1_list e4
  have hko := D.ok
  have hk2 := D2.kn
  have D3 : DS n o b g (q + 301) n3 g3 := (D2.mono (by omega) (Nat.le_refl _)).heap e2 (fun id hid => e6 id (by omega))
  have hoo : ow o = none := by
    cases ho : ow o with
    | none => rfl
    | some s => have := (e5 o s ho).1; omega
  have wcl := w.cl
  have wb := w.born
  have wl := w.len
  have hsm : SmallH h := ⟨by omega, fun c hc => by
    obtain ⟨m, f⟩ := frm_iff.1 (w.form c hc)
    have hm := (method_iff.1 (prog_method hp f.Hm)).2.1
    have := f.tl
    have := f.sl
    omega, by omega⟩
  simp [e1, ok1.k, ok1.g, ok1.p, ok1.c, ok2.k, ok2.g, ok2.p, ok2.c]
  refine bindR (P := fun y => Rn y _) (D3.pick hb (by omega) 14 (by omega)) ?_
  rintro w' G ⟨y, g4, rfl, rfl, y0, y1, -, D4, k4⟩
  have c4 := own_pick e3 hoo k4
  have s4 := own_pick e4 hoo k4
  have fin0 : ∀ {hh : GHeap} {v1 v2 : AVal} {G' : Heap'}, frz 6 (updO G' o none) v1 = some (lCall hh.calls) → True := fun _ => trivial
  by_cases hy : 0 < y
  · simp [hy, ok1.k, ok1.g, ok1.p, ok1.c, ok2.k, ok2.g, ok2.p, ok2.c]
    exact .mk ⟨p, h, cv, sv, n3, g4, rfl, rfl, D4.mono (by omega) (Nat.le_refl _), hp, hsm, frz_own c4 hoo (by simp [dep]), frz_own s4 hoo (by simp [dep]), ok1, ok2⟩
  simp [hy, ok1.k, ok1.g, ok1.p, ok1.c, ok2.k, ok2.g, ok2.p, ok2.c]
  refine bindR (P := fun y => Rn y _) (D4.pick hb (by omega) 8 (by omega)) ?_
  rintro w' G ⟨z, g5, rfl, rfl, z0, z1, -, D5, k5⟩
  have z2 := z1 (by omega)
  have c5 := own_pick c4 hoo k5
  have s5 := own_pick s4 hoo k5
  have hz : z = 0 ∨ z = 1 ∨ z = 2 ∨ z = 3 ∨ z = 4 ∨ z = 5 ∨ z = 6 ∨ z = 7 := by omega
  have hln : lenV cv = some (vi h.calls.length) := by have := own_len c5; simpa using this
  have hn3 : ∀ id s, ow id = some s → id < n3 := fun id s hs => (e5 id s hs).2.1
  obtain ⟨c, hc⟩ : ∃ c, h.calls[0]? = some c := ⟨_, List.getElem?_eq_getElem (by omega)⟩
  have hcs := hsm.c c (List.mem_of_getElem? hc)
  have hll := hsm.l
  have D5' := D5.mono (q' := q + 310) (by omega) (Nat.le_refl _)
  obtain ⟨ci, es, tv, kv, rfl, r1, r2, r3, r4, r5, r6⟩ := call0 c5 hc
  have hci := e5 ci _ r1
  rcases hz with rfl | rfl | rfl | rfl | rfl | rfl | rfl | rfl
  · have hw : IntKind.i64.wrap ((h.calls.length : Int) + 2) = (h.calls.length : Int) + 2 := wrap_id (by omega) (by omega)
    simp [-lenV, hln, hw, ok2.k, ok2.g, ok2.p, ok2.c]
    refine bindR (P := fun y => Rn y _) (D5.pick hb (by omega) (h.calls.length + 2) (by omega)) ?_
    rintro w' G ⟨u, g6, rfl, rfl, u0, u1, -, D6, k6⟩
    have u2 := u1 (by omega)
    have hw2 : IntKind.i64.wrap (u - 1) = u - 1 := wrap_id (by omega) (by omega)
    simp [hw2, ok2.k, ok2.g, ok2.p, ok2.c]
    exact fin_44 (h := { h with now := u - 1 }) (D6.mono (by omega) (Nat.le_refl _)) hp ⟨hsm.l, hsm.c, hsm.s⟩ (frz_own (own_pick c5 hoo k6) hoo (by simp [dep])) (frz_own (own_pick s5 hoo k6) hoo (by simp [dep])) ok1 ok2 rfl rfl rfl rfl
  · simp [ok2.k, ok2.g, ok2.p, ok2.c]
    refine bindR (P := fun y => Rn y _) (D5.pick hb (by omega) 2 (by omega)) ?_
    rintro w' G ⟨u, g6, rfl, rfl, u0, u1, -, D6, k6⟩
    have u2 := u1 (by omega)
    have hu : u = 0 ∨ u = 1 := by omega
    rcases hu with rfl | rfl
    · simp [idxV, ok2.k, ok2.g, ok2.p, ok2.c]
      exact fin_44 (h := { h with born := 0 }) (D6.mono (by omega) (Nat.le_refl _)) hp ⟨hsm.l, hsm.c, hsm.s⟩ (frz_own (own_pick c5 hoo k6) hoo (by simp [dep])) (frz_own (own_pick s5 hoo k6) hoo (by simp [dep])) ok1 ok2 rfl rfl rfl rfl
    · simp [idxV, ok2.k, ok2.g, ok2.p, ok2.c]
      exact fin_44 (h := { h with born := 31 }) (D6.mono (by omega) (Nat.le_refl _)) hp ⟨hsm.l, hsm.c, hsm.s⟩ (frz_own (own_pick c5 hoo k6) hoo (by simp [dep])) (frz_own (own_pick s5 hoo k6) hoo (by simp [dep])) ok1 ok2 rfl rfl rfl rfl
  · simp [ok2.k, ok2.g, ok2.p, ok2.c]
    refine bindR (P := fun y => Rn y _) (D5.pick hb (by omega) 6 (by omega)) ?_
    rintro w' G ⟨u, g6, rfl, rfl, u0, u1, -, D6, k6⟩
    have u2 := u1 (by omega)
    have hw2 : IntKind.i64.wrap (u - 1) = u - 1 := wrap_id (by omega) (by omega)
    simp [hw2, ok2.k, ok2.g, ok2.p, ok2.c]
    exact fin_44 (h := { h with code := u - 1 }) (D6.mono (by omega) (Nat.le_refl _)) hp ⟨hsm.l, hsm.c, hsm.s⟩ (frz_own (own_pick c5 hoo k6) hoo (by simp [dep])) (frz_own (own_pick s5 hoo k6) hoo (by simp [dep])) ok1 ok2 rfl rfl rfl rfl
  · have hix : idxV 6 (.slice ci 0 h.calls.length) (vi 0) g5 = some (.ptr ci 0 0) := by
      have := idx_slice (z := 6) (k := .i64) (n := 0) (off := 0) (len := h.calls.length) (Int.le_refl _) (by omega) r2 (by simpa using r4) rfl
      simpa using this
    have hst : stH 1 0 5 [.bool (!c.dead)] (some es) = some (es.set 0 [vi c.method, vi c.pc, tv, kv, vi c.sender, .bool (!c.dead)]) := by rw [stH_ok r4 (by simp)]; rfl
    simp [hix, r2, r4, hst, ok2.k, ok2.g, ok2.p, ok2.c]
    have oc := own_sc c5 hc r1 r2 r5 r6 c.sender (!c.dead)
    have os := s5.mono (g' := updO g5 ci (some (es.set 0 [vi c.method, vi c.pc, tv, kv, vi c.sender, .bool (!c.dead)]))) (ow' := ow) (Keep.refl.upd (fun s hs hp => by rw [r1] at hs; injection hs with hs; subst hs; simp at hp))
    exact fin_44 (h := { h with calls := h.calls.set 0 { c with dead := !c.dead } }) (D5'.heap (Nat.le_refl _) (fun id hid => by simp only [updO]; rw [if_neg (by omega)])) hp (set_small hsm hcs) (frz_own oc hoo (dep_call _)) (frz_own os hoo (by simp [dep])) ok1 ok2 rfl rfl rfl rfl
  · have hix : ∀ {G' : Heap'}, G' ci = some es → idxV 6 (.slice ci 0 h.calls.length) (vi 0) G' = some (.ptr ci 0 0) := by
      intro G' hG
      have := idx_slice (z := 6) (k := .i64) (n := 0) (off := 0) (len := h.calls.length) (Int.le_refl _) (by omega) hG (by simpa using r4) rfl
      simpa using this
    have h1 := hix r2
    have okt := ok1_list r5
    simp [h1, r2, r4, ok2.k, ok2.g, ok2.p, ok2.c, okt.k, okt.g, okt.p, okt.c]
    refine bindR (P := fun y => Rn y _) (own_app r5 hn3 ⟨0, 0⟩ (by omega)) ?_
    rintro v' G' ⟨n6, g6, id2, rfl, i0, rfl, i1, i2, i4, k6⟩
    have r26 : g6 ci = some es := (k6 ci hci.2.1 (by rw [r1]; simp)).trans r2
    have h2 := hix r26
    have hst : stH 1 0 2 [.slice id2 0 (c.temps ++ [(⟨0, 0⟩ : GVal)]).length] (some es) = some (es.set 0 [vi c.method, vi c.pc, .slice id2 0 (c.temps ++ [(⟨0, 0⟩ : GVal)]).length, kv, vi c.sender, .bool c.dead]) := by rw [stH_ok r4 (by simp)]; rfl
    have oc := own_tm c5 hc r1 r2 r6 hn3 i1 i4 k6
    have os := s5.mono (g' := updO g6 ci (some (es.set 0 [vi c.method, vi c.pc, .slice id2 0 (c.temps ++ [(⟨0, 0⟩ : GVal)]).length, kv, vi c.sender, .bool c.dead]))) (ow' := updW ow id2 [0, 0, 2]) (fun j s hj hp => ⟨fun es he => by
      simp only [updO]
      rw [if_neg (fun e => by rw [e, r1] at hj; injection hj with hj; subst hj; simp at hp), k6 j (hn3 j s hj) (fun e => by rw [hj] at e; injection e with e; subst e; simp at hp)]
      exact he, by
      have := hn3 j s hj
      simp only [updW]
      rw [if_neg (by omega)]
      exact hj⟩)
    have hoo2 : updW ow id2 [0, 0, 2] o = none := by simp only [updW]; rw [if_neg (by omega)]; exact hoo
    have Dz := (D5'.heap (n' := n6) (g' := updO g6 ci (some (es.set 0 [vi c.method, vi c.pc, .slice id2 0 (c.temps ++ [(⟨0, 0⟩ : GVal)]).length, kv, vi c.sender, .bool c.dead]))) i0 (fun id hid => by
      simp only [updO]
      rw [if_neg (by omega)]
      refine k6 id (by omega) (fun e => ?_)
      have := (e5 id _ e).1
      omega))
    have hl2 : (c.temps ++ [(⟨0, 0⟩ : GVal)]).length = c.temps.length + 1 := by simp
    have hct : c.temps.length ≤ 4 := by
      obtain ⟨m, f⟩ := frm_iff.1 (w.form c (List.mem_of_getElem? hc))
      have hm := (method_iff.1 (prog_method hp f.Hm)).2.1
      have := f.tl
      omega
    rw [hl2] at hst oc os Dz
    simp [h2, r26, hst]
    exact fin_44 (h := { h with calls := h.calls.set 0 { c with temps := c.temps ++ [⟨0, 0⟩] } }) Dz hp (set_small hsm ⟨by simp; omega, hcs.2⟩) (frz_own oc hoo2 (dep_call _)) (frz_own os hoo2 (by simp [dep])) ok1 ok2 rfl rfl rfl rfl
  · have hix : idxV 6 (.slice ci 0 h.calls.length) (vi 0) g5 = some (.ptr ci 0 0) := by
      have := idx_slice (z := 6) (k := .i64) (n := 0) (off := 0) (len := h.calls.length) (Int.le_refl _) (by omega) r2 (by simpa using r4) rfl
      simpa using this
    have hw : IntKind.i64.wrap ((h.calls.length : Int) - 1) = (h.calls.length : Int) - 1 := wrap_id (by omega) (by omega)
    have hst : stH 1 0 4 [vi ((h.calls.length : Int) - 1)] (some es) = some (es.set 0 [vi c.method, vi c.pc, tv, kv, vi ((h.calls.length : Int) - 1), .bool c.dead]) := by rw [stH_ok r4 (by simp)]; rfl
    simp [hix, r2, r4, hw, hst, ok2.k, ok2.g, ok2.p, ok2.c]
    have oc := own_sc c5 hc r1 r2 r5 r6 ((h.calls.length : Int) - 1) c.dead
    have os := s5.mono (g' := updO g5 ci (some (es.set 0 [vi c.method, vi c.pc, tv, kv, vi ((h.calls.length : Int) - 1), .bool c.dead]))) (ow' := ow) (Keep.refl.upd (fun s hs hp => by rw [r1] at hs; injection hs with hs; subst hs; simp at hp))
    exact fin_44 (h := { h with calls := h.calls.set 0 { c with sender := (h.calls.length : Int) - 1 } }) (D5'.heap (Nat.le_refl _) (fun id hid => by simp only [updO]; rw [if_neg (by omega)])) hp (set_small hsm hcs) (frz_own oc hoo (dep_call _)) (frz_own os hoo (by simp [dep])) ok1 ok2 rfl rfl rfl rfl
  · simp [ok2.k, ok2.g, ok2.p, ok2.c]
    refine bindR (P := fun y => Rn y _) (own_app s5 hn3 ⟨2, 9⟩ (by have := hsm.s; omega)) ?_
    rintro v' G' ⟨n6, g6, id2, rfl, i0, rfl, i1, i2, i4, k6⟩
    have os : Own g6 (updW ow id2 [1]) [1] (lVal (h.said ++ [⟨2, 9⟩])) (.slice id2 0 (h.said ++ [(⟨2, 9⟩ : GVal)]).length) := own_one (by simp) (by simp [updW]) i4
    have oc := c5.mono (g' := g6) (ow' := updW ow id2 [1]) (fun j s hj hp => ⟨fun es he => by
      rw [k6 j (hn3 j s hj) (fun e => by rw [hj] at e; injection e with e; subst e; simp at hp)]
      exact he, by
      have := hn3 j s hj
      simp only [updW]
      rw [if_neg (by omega)]
      exact hj⟩)
    have hoo2 : updW ow id2 [1] o = none := by simp only [updW]; rw [if_neg (by omega)]; exact hoo
    have Dz := (D5'.heap (n' := n6) (g' := g6) i0 (fun id hid => by
      refine k6 id (by omega) (fun e => ?_)
      have := (e5 id _ e).1
      omega))
    have hl2 : (h.said ++ [(⟨2, 9⟩ : GVal)]).length = h.said.length + 1 := by simp
    rw [hl2] at os
    simp
    exact fin_44 (h := { h with said := h.said ++ [⟨2, 9⟩] }) Dz hp ⟨hsm.l, hsm.c, by simp; omega⟩ (frz_own oc hoo2 (dep_call _)) (frz_own os hoo2 (by simp [dep])) ok1 (ok1_list os) rfl rfl rfl rfl
  · have hsl : slV 6 (.slice ci 0 h.calls.length) (some (vi 1)) none g5 = some (.slice ci 1 (h.calls.length - 1)) := by
      have hz6 : ∀ e ∈ es, e.length = 6 := by
        rcases c5.list_inv with ⟨e, _⟩ | ⟨hne, id, es2, q1, q2, q3, q4, q5⟩
        · have e := List.map_eq_nil_iff.1 e
          rw [e] at hc1; simp at hc1
        · injection q1 with q1
          subst q1
          rw [r2] at q3
          injection q3 with q3
          subst q3
          intro e he
          obtain ⟨i, hi, rfl⟩ := List.getElem_of_mem he
          obtain ⟨row, w1, w2⟩ := q5 i ((h.calls.map eCall)[i]'(by omega)) (List.getElem?_eq_getElem _)
          rw [List.getElem?_eq_getElem hi] at w1
          injection w1 with w1
          rw [w1, (RowR.iff.1 w2).1]
          simp
      have hne : es ≠ [] := by intro e; subst e; simp at r3; omega
      have h1l : 1 ≤ h.calls.length := hc1
      simp [slV, boundOf, r2, hne, h1l]
      exact hz6
    simp [hsl, ok2.k, ok2.g, ok2.p, ok2.c]
    have f5 := frz_own c5 hoo (by simp [dep])
    have e0 : updO g5 o none ci = some es := by simp only [updO]; rw [if_neg (by omega)]; exact r2
    have f5' : ((updO g5 o none ci).bind fun es => if 0 + h.calls.length ≤ es.length then (omap (omap (frz 5 (updO g5 o none))) ((es.drop 0).take h.calls.length)).map AVal.list else none) = some (lCall h.calls) := f5
    rw [e0] at f5'
    have ht : (es.drop 0).take h.calls.length = es := by rw [List.drop_zero]; exact List.take_of_length_le (by omega)
    simp only [Option.bind_some, Nat.zero_add, if_pos (show h.calls.length ≤ es.length by omega), ht, Option.map_eq_some_iff] at f5'
    obtain ⟨es', f6, f7⟩ := f5'
    injection f7 with f7
    subst f7
    have fc : frz 6 (updO g5 o none) (.slice ci 1 (h.calls.length - 1)) = some (lCall (h.calls.drop 1)) := by
      show ((updO g5 o none ci).bind fun es => if 1 + (h.calls.length - 1) ≤ es.length then (omap (omap (frz 5 (updO g5 o none))) ((es.drop 1).take (h.calls.length - 1))).map AVal.list else none) = _
      rw [e0]
      have ht1 : (es.drop 1).take (h.calls.length - 1) = es.drop 1 := List.take_of_length_le (by simp; omega)
      simp only [Option.bind_some, if_pos (show 1 + (h.calls.length - 1) ≤ es.length by omega), ht1, omap_drop 1 f6, Option.map_some]
      rw [← List.map_drop]
    exact fin_44 (h := { h with calls := h.calls.drop 1 }) D5' hp ⟨by simp; omega, fun c hc => hsm.c c (List.mem_of_mem_drop hc), hsm.s⟩ fc (frz_own s5 hoo (by simp [dep])) ⟨rfl, rfl, fun _ => rfl, rfl⟩ ok2 rfl rfl rfl rfl
theorem open_45 (b : List Nat) (hl : b.length ≤ 9223372036854775807) (n : Nat) : run AP mt 45 [lB b] ⟨n, noObj⟩ = some (.ptr n 0 0, ⟨n + 1, updO noObj n (some [[lB (b.take 2000), vi 0]])⟩) := by
  rw [run_evS AP_45 _ _ rfl]
  by_cases h : (2000 : Int) < b.length
  · have hsl : slV 1 (lB b) none (some (vi 2000)) noObj = some (lB (b.take 2000)) := by
      have h1 : 2000 ≤ b.length := by omega
      simp [slV, boundOf, h1]
    simp [c_45, h, hsl]
    rw [← List.map_take]
  · have ht : b.take 2000 = b := List.take_of_length_le (by omega)
    simp [c_45, h, ht]
theorem Rn.to {Φ : AVal → AG → Prop} {x : R} {P : R → Prop} (h : Rn x Φ) (k : ∀ v G, Φ v G → P (some (v, G))) : P x := by
  obtain ⟨v, G, rfl, h⟩ := h
  exact k v G h
theorem frz_pair {g : Heap'} {p : GProg} {h : GHeap} {cv sv : AVal} (f1 : frz 6 g cv = some (lCall h.calls)) (f2 : frz 6 g sv = some (lVal h.said)) (r : List AVal) {r' : List AVal} (hr : omap (frz 7 g) r = some r') : frz 8 g (.tuple (aProg p :: .agg [cv, vi h.now, vi h.born, sv, vi h.code] :: r)) = some (.tuple (aProg p :: aHeap h :: r')) := by
  have ei : ∀ d n, frz (d + 1) g (vi n) = some (vi n) := fun _ _ => rfl
  have el : frz 6 g (lMethod p) = some (lMethod p) := rfl
  have ep : frz 7 g (.agg [lMethod p]) = some (aProg p) := by
    show (omap (frz 6 g) [lMethod p]).map AVal.agg = some (.agg [lMethod p])
    simp only [omap, el, Option.bind_some, Option.map_some]
  have ea : frz 7 g (.agg [cv, vi h.now, vi h.born, sv, vi h.code]) = some (aHeap h) := by
    show (omap (frz 6 g) _).map AVal.agg = _
    simp [omap, f1, f2, ei 5]
  show (omap (frz 7 g) _).map AVal.tuple = _
  simp only [omap, ep, ea, hr, Option.bind_some, Option.map_some]
end
end Go.Ai
set_option linter.unusedSimpArgs false
set_option linter.unusedVariables false
namespace Go.Ai
variable {mt : Nat → Nat → Option Nat}
attribute [local simp] cnd_ite gS_ite callBy_whole
end Go.Ai
set_option linter.unusedSimpArgs false
set_option linter.unusedVariables false
namespace Go.Ai
attribute [local simp] cnd_ite gS_ite callBy_whole
section
variable {k : Nat} {Z : Heap'} {A B : List Nat} {o : Nat} {p : GProg}
end
end Go.Ai
