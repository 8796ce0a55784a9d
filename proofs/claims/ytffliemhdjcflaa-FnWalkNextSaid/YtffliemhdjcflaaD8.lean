/- The reader of a code: a number that is drawn. Draws: what stays as it was, lists that grow, operations two by two. Draws: operations that take or leave values, and parts of methods. Draws: operations that leave what a method takes; those that look at a call. Draws: operations that look at a call; parts of methods. Draws: parts of methods. -/
import Derived.Test.YtffliemhdjcflaaB10
import Derived.Test.YtffliemhdjcflaaD1
set_option linter.unusedSimpArgs false
set_option linter.unusedVariables false
namespace Go.Ai
variable {mt : Nat → Nat → Option Nat}
attribute [local simp] cnd_ite gS_ite callBy_whole
abbrev eB (x : Nat) : List AVal := [.int .u8 x]
abbrev lB (b : List Nat) : AVal := .list (b.map eB)
theorem w_B (b : List Nat) : ∀ e ∈ b.map eB, e.length = 1 := by simp
/-- What is answered. -/
def Rn (x : R) (Φ : AVal → AG → Prop) : Prop := ∃ v G, x = some (v, G) ∧ Φ v G
theorem Rn.mk {v : AVal} {G : AG} {Φ : AVal → AG → Prop} (h : Φ v G) : Rn (some (v, G)) Φ := ⟨v, G, rfl, h⟩
/-- What follows a call goes by what the call leaves. -/
theorem bindR {P : R → Prop} {Φ : AVal → AG → Prop} {x : R} {d : Option Nat} {is : List AI} {fr : Fr} {ks : List Nat} {S : List KF} (h : Rn x Φ) (k : ∀ v G, Φ v G → P (isS AP mt is (put fr d v) G ks S)) : P (retS AP mt x d is fr ks S) := by
  obtain ⟨v, G, rfl, hp⟩ := h
  exact k v G hp
/-- The reader at o, of the code b, at place p. -/
def Rdr (o : Nat) (b : List Nat) (p : Int) (g : Heap') : Prop := g o = some [[lB b, vi p]]
theorem xor_small {a b : Int} (ha : 0 ≤ a ∧ a < 1099511627776) (hb : 0 ≤ b ∧ b < 1099511627776) : ∃ x, IntKind.i64.wrap (((a % 18446744073709551616).toNat ^^^ (b % 18446744073709551616).toNat : Nat) : Int) = x ∧ 0 ≤ x ∧ x < 1099511627776 := by
  have h3 : ((a % 18446744073709551616).toNat ^^^ (b % 18446744073709551616).toNat) < 2 ^ 40 := Nat.xor_lt_two_pow (by omega) (by omega)
  exact ⟨_, wrap_id (by omega) (by omega), by omega, by omega⟩
theorem tmod_in {x n : Int} (hx : 0 ≤ x) (hn : 0 < n) : 0 ≤ x.tmod n ∧ x.tmod n < n := by
  rw [Int.tmod_eq_emod_of_nonneg hx]
  exact ⟨Int.emod_nonneg _ (by omega), Int.emod_lt_of_pos _ hn⟩
theorem tdiv_in {x n : Int} (hx : 0 ≤ x) (hn : 0 < n) : 0 ≤ x.tdiv n ∧ x.tdiv n ≤ x := by
  rw [Int.tdiv_eq_ediv_of_nonneg hx]
  exact ⟨Int.ediv_nonneg hx (by omega), Int.ediv_le_self _ hx⟩
def PickQ (o : Nat) (b : List Nat) (p : Int) (n : Nat) (g : Heap') (m : Int) (v : AVal) (G : AG) : Prop := ∃ x g', v = vi x ∧ G = ⟨n, g'⟩ ∧ 0 ≤ x ∧ (0 < m → x < m) ∧ (m ≤ 0 → x = 0) ∧ Rdr o b (p + 1) g' ∧ ∀ id, id ≠ o → g' id = g id
theorem pick_76 {o : Nat} {b : List Nat} {p : Int} (n : Nat) {g : Heap'} (hr : Rdr o b p g) (hb : ∀ x ∈ b, x < 256) (hp : 0 ≤ p ∧ p ≤ 1000000) (hl : b.length ≤ 2000) (m : Int) (hm : -4294967296 ≤ m ∧ m ≤ 4294967296) :
    Rn (run AP mt 76 [.ptr o 0 0, vi m] ⟨n, g⟩) (PickQ o b p n g m) := by
  unfold Rdr at hr
  have hst : stH 1 0 1 [vi (p + 1)] (some [[lB b, vi p]]) = some [[lB b, vi (p + 1)]] := by simp [stH, splice]
  have hw1 : IntKind.i64.wrap (p + 1) = p + 1 := wrap_id (by omega) (by omega)
  have hw0 : IntKind.i64.wrap p = p := wrap_id (by omega) (by omega)
  have hw2 : IntKind.i64.wrap (p + 1 - 1) = p := by rw [wrap_id (by omega) (by omega)]; omega
  have hr' : (updO g o (some [[lB b, vi (p + 1)]])) o = some [[lB b, vi (p + 1)]] := by simp [updO]
  have fin : ∀ x : Int, 0 ≤ x → (0 < m → x < m) → (m ≤ 0 → x = 0) → Rn (some (vi x, ⟨n, updO g o (some [[lB b, vi (p + 1)]])⟩)) (PickQ o b p n g m) :=
    fun x h1 h2 h3 => .mk ⟨x, _, rfl, rfl, h1, h2, h3, hr', fun id hid => by simp [updO, hid]⟩
  generalize hg' : updO g o (some [[lB b, vi (p + 1)]]) = g' at *
  rw [run_evS AP_76 _ _ rfl]
  by_cases hm1 : m < 1
  · simp [c_76, hr, hst, hw1, hg', hr', hm1]
    exact fin 0 (by omega) (fun h => by omega) (fun _ => rfl)
  have hm0 : 0 < m := by omega
  by_cases hb0 : b = []
  · subst hb0
    simp [c_76, hr, hst, hw1, hg', hr', hm1]
    exact fin 0 (by omega) (fun h => by omega) (fun _ => rfl)
  have hbl : 0 < b.length := List.length_pos_iff.2 hb0
  have hne : ¬ ((b.length : Int) = 0) := by omega
  have hget : ∀ i : Nat, i < b.length → ∃ x, b[i]? = some x ∧ x < 256 := fun i hi => ⟨b[i], List.getElem?_eq_getElem hi, hb _ (List.getElem_mem hi)⟩
  have hmne : ¬ m = 0 := by omega
  have hcv : ∀ x : Nat, x < 256 → IntKind.i64.wrap ((x : Nat) : Int) = x := fun x hx => wrap_id (by omega) (by omega)
  by_cases hpl : p < b.length
  · obtain ⟨x, hx, hx2⟩ := hget p.toNat (by omega)
    have hix := fun g => idx_ok (g := g) (k := .i64) (w_B b) hp.1 (by simpa using hpl)
    obtain ⟨t1, t2⟩ := tmod_in (x := (x : Int)) (by omega) hm0
    simp [c_76, hr, hst, hw1, hg', hr', hm1, hne, hb0, hw0, hw2, hpl, hix, hx, hcv x hx2, hmne]
    exact fin _ t1 (fun _ => t2) (fun h => by omega)
  · obtain ⟨a1, a2⟩ := tmod_in (x := p) hp.1 (show (0 : Int) < b.length by omega)
    have w1 : IntKind.i64.wrap (p * 7) = p * 7 := wrap_id (by omega) (by omega)
    have w2 : IntKind.i64.wrap (p * 7 + 3) = p * 7 + 3 := wrap_id (by omega) (by omega)
    obtain ⟨b1, b2⟩ := tmod_in (x := p * 7 + 3) (by omega) (show (0 : Int) < b.length by omega)
    obtain ⟨x, hx, hx2⟩ := hget (p.tmod b.length).toNat (by omega)
    obtain ⟨y, hy, hy2⟩ := hget ((p * 7 + 3).tmod b.length).toNat (by omega)
    have hix := fun g => idx_ok (g := g) (k := .i64) (w_B b) a1 (by simpa using a2)
    have hiy := fun g => idx_ok (g := g) (k := .i64) (w_B b) b1 (by simpa using b2)
    have w3 : IntKind.i64.wrap ((x : Int) * 131) = x * 131 := wrap_id (by omega) (by omega)
    have w4 : IntKind.i64.wrap ((y : Int) * 1117) = y * 1117 := wrap_id (by omega) (by omega)
    have w5 : IntKind.i64.wrap ((x : Int) * 131 + y * 1117) = x * 131 + y * 1117 := wrap_id (by omega) (by omega)
    have w6 : IntKind.i64.wrap (p * 29) = p * 29 := wrap_id (by omega) (by omega)
    have w7 : IntKind.i64.wrap ((x : Int) * 131 + y * 1117 + p * 29) = x * 131 + y * 1117 + p * 29 := wrap_id (by omega) (by omega)
    obtain ⟨d1, d2⟩ := tdiv_in (x := p) hp.1 (show (0 : Int) < b.length by omega)
    have w8 : IntKind.i64.wrap (p.tdiv b.length) = p.tdiv b.length := wrap_id (by omega) (by omega)
    have w9 : IntKind.i64.wrap (p.tdiv b.length * 53) = p.tdiv b.length * 53 := wrap_id (by omega) (by omega)
    have hz : 0 ≤ (x : Int) * 131 + y * 1117 + p * 29 + p.tdiv b.length * 53 ∧ (x : Int) * 131 + y * 1117 + p * 29 + p.tdiv b.length * 53 < 1099511627776 := ⟨by omega, by omega⟩
    obtain ⟨z, w10, hz⟩ : ∃ z, IntKind.i64.wrap ((x : Int) * 131 + y * 1117 + p * 29 + p.tdiv b.length * 53) = z ∧ 0 ≤ z ∧ z < 1099511627776 := ⟨_, wrap_id (by omega) (by omega), hz⟩
    obtain ⟨e1, e2⟩ := tdiv_in (x := z) hz.1 (show (0 : Int) < 64 by omega)
    have w11 : IntKind.i64.wrap (z.tdiv 64) = z.tdiv 64 := wrap_id (by omega) (by omega)
    obtain ⟨u, hu, u1, u2⟩ := xor_small hz (b := z.tdiv 64) ⟨e1, by omega⟩
    obtain ⟨t1, t2⟩ := tmod_in (x := u) u1 hm0
    have hbits : IntKind.i64.bits = 64 := rfl
    simp [c_76, hr, hst, hw1, hg', hr', hm1, hne, hb0, hw0, hw2, hpl, hix, hiy, hx, hy, hcv x hx2, hcv y hy2, hmne, w1, w2, w3, w4, w5, w6, w7, w8, w9, w10, w11, hbits, hu]
    exact fin _ t1 (fun _ => t2) (fun h => by omega)
end Go.Ai
set_option linter.unusedSimpArgs false
set_option linter.unusedVariables false
namespace Go.Ai
variable {mt : Nat → Nat → Option Nat}
attribute [local simp] cnd_ite gS_ite callBy_whole
/-- A code. -/
structure Cd (b : List Nat) : Prop where
  u8 : ∀ x ∈ b, x < 256
  l : b.length ≤ 2000
/-- What lies below k stays, but for the reader at o, which has been read q times at most. -/
structure DS (k o : Nat) (b : List Nat) (g0 : Heap') (q : Int) (n : Nat) (g : Heap') : Prop where
  kn : k ≤ n
  ok : o < k
  r : ∃ p, 0 ≤ p ∧ p ≤ q ∧ Rdr o b p g
  z : ∀ id, id < k → id ≠ o → g id = g0 id
section
variable {k o : Nat} {b : List Nat} {g0 : Heap'} {q : Int} {n : Nat} {g : Heap'}
def DP (k o : Nat) (b : List Nat) (g0 : Heap') (q : Int) (n : Nat) (g : Heap') (m : Int) (v : AVal) (G : AG) : Prop := ∃ x g', v = vi x ∧ G = ⟨n, g'⟩ ∧ 0 ≤ x ∧ (0 < m → x < m) ∧ (m ≤ 0 → x = 0) ∧ DS k o b g0 (q + 1) n g' ∧ ∀ id, id ≠ o → g' id = g id
theorem DS.pick (D : DS k o b g0 q n g) (hb : Cd b) (hq : q ≤ 100000) (m : Int) (hm : -4294967296 ≤ m ∧ m ≤ 4294967296) : Rn (run AP mt 76 [.ptr o 0 0, vi m] ⟨n, g⟩) (DP k o b g0 q n g m) := by
  obtain ⟨p, p0, p1, hr⟩ := D.r
  obtain ⟨v, G, h1, x, g', rfl, rfl, h2, h3, h4, h5, h6⟩ := pick_76 (mt := mt) n hr hb.u8 ⟨p0, by omega⟩ hb.l m hm
  exact ⟨_, _, h1, x, g', rfl, rfl, h2, h3, h4, ⟨D.kn, D.ok, ⟨p + 1, by omega, by omega, h5⟩, fun id h7 h8 => (h6 id h8).trans (D.z id h7 h8)⟩, h6⟩
theorem DS.mono (D : DS k o b g0 q n g) {q' : Int} {n' : Nat} (hq : q ≤ q') (hn : n ≤ n') : DS k o b g0 q' n' g := by
  obtain ⟨p, p0, p1, hr⟩ := D.r
  exact ⟨by have := D.kn; omega, D.ok, ⟨p, p0, by omega, hr⟩, D.z⟩
theorem DS.heap (D : DS k o b g0 q n g) {n' : Nat} {g' : Heap'} (hn : n ≤ n') (hg : ∀ id, id < k → g' id = g id) : DS k o b g0 q n' g' := by
  obtain ⟨p, p0, p1, hr⟩ := D.r
  exact ⟨by have := D.kn; omega, D.ok, ⟨p, p0, p1, by unfold Rdr at *; rw [hg o D.ok]; exact hr⟩, fun id h1 h2 => (hg id h1).trans (D.z id h1 h2)⟩
/-- As it begins. -/
theorem DS.start (D : DS k o b g0 q n g) : DS n o b g q n g := ⟨Nat.le_refl _, Nat.lt_of_lt_of_le D.ok D.kn, D.r, fun _ _ _ => rfl⟩
/-- A function's part in it. -/
theorem DS.join (D : DS k o b g0 q n g) {q' : Int} {n' : Nat} {g' : Heap'} (E : DS n o b g q' n' g') : DS k o b g0 q' n' g' :=
  ⟨by have := D.kn; have := E.kn; omega, D.ok, E.r, fun id h1 h2 => (E.z id (by have := D.kn; omega) h2).trans (D.z id h1 h2)⟩
end
/-- A list of one's own. -/
def Ls {α : Type} (e : α → List AVal) (k n : Nat) (l : List α) (v : AVal) (g : Heap') : Prop := (l = [] ∧ v = .nils) ∨ (l ≠ [] ∧ ∃ id, k ≤ id ∧ id < n ∧ v = .slice id 0 l.length ∧ g id = some (l.map e))
section
variable {α : Type} {e : α → List AVal} {k n : Nat} {l : List α} {v : AVal} {g : Heap'}
def LsQ (e : α → List AVal) (k n : Nat) (l : List α) (g : Heap') (v : AVal) (G : AG) : Prop := ∃ n' g', G = ⟨n', g'⟩ ∧ n ≤ n' ∧ Ls e k n' l v g' ∧ ∀ id, id < k → g' id = g id
theorem Ls.nil : Ls e k n [] .nils g := .inl ⟨rfl, rfl⟩
theorem Ls.keep (h : Ls e k n l v g) {n' : Nat} {g' : Heap'} (hn : n ≤ n') (hg : ∀ id, k ≤ id → id < n → g' id = g id) : Ls e k n' l v g' := by
  rcases h with h | ⟨h0, id, h1, h2, h3, h4⟩
  · exact .inl h
  · exact .inr ⟨h0, id, h1, by omega, h3, by rw [hg id h1 h2]; exact h4⟩
theorem Ls.low (h : Ls e k n l v g) {k' : Nat} (hk : k' ≤ k) : Ls e k' n l v g := by
  rcases h with h | ⟨h0, id, h1, h2, h3, h4⟩
  · exact .inl h
  · exact .inr ⟨h0, id, by omega, h2, h3, h4⟩
theorem Ls.src (h : Ls e k n l v g) : srcOf g v = some (l.map e) := by
  rcases h with ⟨rfl, rfl⟩ | ⟨h0, id, h1, h2, rfl, h4⟩
  · rfl
  · have : 0 + l.length ≤ (l.map e).length := by simp
    have h5 : ((l.map e).drop 0).take l.length = l.map e := by rw [List.drop_zero]; exact List.take_of_length_le (by simp)
    simp only [srcOf, h4, Option.bind_some, if_pos this, h5]
theorem Ls.ok (h : Ls e k n l v g) : Ok1 v := by
  rcases h with ⟨rfl, rfl⟩ | ⟨h0, id, h1, h2, rfl, h4⟩
  · exact ⟨rfl, rfl, fun _ => rfl, rfl⟩
  · exact ⟨rfl, rfl, fun _ => rfl, rfl⟩
theorem Ls.len (h : Ls e k n l v g) : lenV v = some (vi l.length) := by
  rcases h with ⟨rfl, rfl⟩ | ⟨h0, id, h1, h2, rfl, h4⟩
  · rfl
  · rfl
theorem Ls.app (h : Ls e k n l v g) (hk : k ≤ n) {z bytes : Nat} (hz : ∀ a, (e a).length = z) {y : AVal} {l2 : List α} (hs : srcOf g y = some (l2.map e)) (hl : (l.length + l2.length) * bytes ≤ maxA) :
    Rn (appV z bytes v y ⟨n, g⟩) (LsQ e k n (l ++ l2) g) := by
  have hz' : ∀ x ∈ l2.map e, x.length = z := by intro x hx; obtain ⟨a, _, rfl⟩ := List.mem_map.1 hx; exact hz a
  have hz1 : ∀ x ∈ l.map e, x.length = z := by intro x hx; obtain ⟨a, _, rfl⟩ := List.mem_map.1 hx; exact hz a
  have hlm : (l2.map e).length = l2.length := List.length_map _
  have hlm1 : (l.map e).length = l.length := List.length_map _
  rcases h with ⟨rfl, rfl⟩ | ⟨h0, id, h1, h2, rfl, h4⟩
  · by_cases h2 : l2 = []
    · subst h2
      refine ⟨.nils, ⟨n, g⟩, ?_, n, g, rfl, Nat.le_refl _, .nil, fun _ _ => rfl⟩
      simp [appV, hs]
    · refine ⟨.slice n 0 l2.length, ⟨n + 1, updO g n (some (l2.map e))⟩, ?_, n + 1, _, rfl, by omega, .inr ⟨by simpa using h2, n, hk, by omega, by simp, by simp [updO]⟩, fun id hid => by simp only [updO]; rw [if_neg (by omega)]⟩
      have hne : l2.map e ≠ [] := by simpa using h2
      simp only [List.length_nil, Nat.zero_add] at hl
      simp only [appV, hs, Option.bind_some, if_pos hz', if_neg hne, hlm, if_pos hl]
  · refine ⟨.slice n 0 (l.length + l2.length), ⟨n + 1, updO (updO g id none) n (some (l.map e ++ l2.map e))⟩, ?_, n + 1, _, rfl, by omega, .inr ⟨by simp [h0], n, hk, by omega, by simp, by simp [updO]⟩, fun i hi => by simp only [updO]; rw [if_neg (by omega), if_neg (by omega)]⟩
    have hne : l.map e ≠ [] := by simpa using h0
    have hc : True ∧ l.map e ≠ [] ∧ (∀ x ∈ l.map e, x.length = z) ∧ (l.length + l2.length) * bytes ≤ maxA := ⟨trivial, hne, hz1, hl⟩
    simp only [appV, hs, Option.bind_some, if_pos hz', h4, hlm, hlm1]
    exact if_pos hc
end
def pairs : List Int → List GOp
  | a :: b :: r => ⟨a, b⟩ :: pairs r
  | _ => []
theorem ol_123 (l : List Int) (hl : l.length ≤ 100) (P : R → Prop) (S : List KF) (n : Nat) (g0 : Heap') (outF : List GOp)
    (hE : ∀ fr m g v, n ≤ m → Ls eOp n m outF v g → (∀ id, id < n → g id = g0 id) → fr 3 = v → P (unw AP mt (.exit 0) fr ⟨m, g⟩ S)) :
    ∀ (f i : Nat) (out : List GOp) (v : AVal) (m : Nat) (g : Heap'), l.length - i ≤ f → i ≤ l.length → out.length ≤ i → Ls eOp n m out v g → n ≤ m → (∀ id, id < n → g id = g0 id) → out ++ pairs (l.drop i) = outF →
      P (evS AP mt (.loop l_123_0) (upd (upd (upd fr0 4 (vi i)) 3 v) 0 (lInt l)) ⟨m, g⟩ S) := by
  intro f
  induction f with
  | zero =>
    intro i out v m g hf hi ho hL hm hz he
    have hc : ¬ ((i : Int) + 1 < l.length) := by omega
    have hw : IntKind.i64.wrap ((i : Int) + 1) = (i : Int) + 1 := wrap_id (by omega) (by omega)
    have hd : l.drop i = [] := List.drop_eq_nil_iff.2 (by omega)
    rw [hd] at he
    simp [pairs] at he
    subst he
    have hk := hL.ok
    rw [S_loop]
    simp [u_123_0, b_123_0, hc, hw, hk.k, hk.g, hk.p]
    exact hE _ _ _ _ hm hL hz (by simp)
  | succ f ih =>
    intro i out v m g hf hi ho hL hm hz he
    have hk := hL.ok
    have hw : IntKind.i64.wrap ((i : Int) + 1) = (i : Int) + 1 := wrap_id (by omega) (by omega)
    by_cases hc : (i : Int) + 1 < l.length
    · have hi1 : i < l.length := by omega
      have hi2 : i + 1 < l.length := by omega
      have e1 : l[i]? = some l[i] := List.getElem?_eq_getElem hi1
      have e2 : l[i + 1]? = some l[i + 1] := List.getElem?_eq_getElem hi2
      have hix := fun g => idx_ok (g := g) (k := .i64) (w_Int l) (show (0:Int) ≤ i by omega) (by simp; omega)
      have hix2 := fun g => idx_ok (g := g) (k := .i64) (w_Int l) (show (0:Int) ≤ (i : Int) + 1 by omega) (by simpa using hc)
      have hw2 : IntKind.i64.wrap ((i : Int) + 2) = ((i + 2 : Nat) : Int) := by rw [wrap_id (by omega) (by omega)]; omega
      have ht : ((i : Int) + 1).toNat = i + 1 := by omega
      have hd : l.drop i = l[i] :: l[i + 1] :: l.drop (i + 2) := by rw [List.drop_eq_getElem_cons hi1, List.drop_eq_getElem_cons hi2]
      rw [hd] at he
      simp only [pairs] at he
      obtain ⟨v', G, a1, n', g', rfl, a2, a3, a4⟩ := hL.app hm (z := 2) (bytes := 16) (l2 := [⟨l[i], l[i + 1]⟩]) (fun _ => rfl) (y := .list [[vi l[i], vi l[i + 1]]]) rfl (by simp [maxA]; omega)
      have hk' := a3.ok
      rw [S_loop]
      simp [u_123_0, b_123_0, hc, hw, hk.k, hk.g, hk.p, hix, hix2, e1, e2, ht, a1, hk'.k, hk'.g, hk'.p, hw2]
      simpa using ih (i + 2) (out ++ [⟨l[i], l[i + 1]⟩]) v' n' g' (by omega) (by omega) (by simp; omega) a3 (by omega) (fun id hid => (a4 id hid).trans (hz id hid)) (by rw [← he]; simp)
    · have hd : pairs (l.drop i) = [] := by
        have : (l.drop i).length ≤ 1 := by simp; omega
        match hdd : l.drop i, this with
        | [], _ => rfl
        | [_], _ => rfl
        | _ :: _ :: _, h => simp at h
      rw [hd] at he
      simp at he
      subst he
      rw [S_loop]
      simp [u_123_0, b_123_0, hc, hw, hk.k, hk.g, hk.p]
      exact hE _ _ _ _ hm hL hz (by simp)
theorem ops_123 (l : List Int) (hl : l.length ≤ 100) (n : Nat) (g : Heap') : Rn (run AP mt 123 [lInt l] ⟨n, g⟩) (LsQ eOp n n (pairs l) g) := by
  rw [run_evS AP_123 _ _ rfl]
  simp [c_123]
  refine ol_123 (mt := mt) l hl (fun x => Rn x (LsQ eOp n n (pairs l) g)) _ n g (pairs l) (fun fr m g' v hm hL hz h3 => ?_) l.length 0 [] .nils n g (by omega) (by omega) (by simp) .nil (Nat.le_refl _) (fun _ _ => rfl) (by simp)
  have hk := hL.ok
  simp [h3, hk.k, hk.g, hk.p]
  exact .mk ⟨m, g', rfl, hm, hL, hz⟩
end Go.Ai
set_option linter.unusedSimpArgs false
set_option linter.unusedVariables false
namespace Go.Ai
variable {mt : Nat → Nat → Option Nat}
attribute [local simp] cnd_ite gS_ite callBy_whole
def opN (nm temps len : Int) (o : GOp) : Bool :=
  if o.kind = 1 then inR o.a 0 99
  else if o.kind = 2 ∨ o.kind = 3 then inR o.a 0 (temps - 1)
  else if o.kind = 7 ∨ o.kind = 8 then inR o.a 0 (len - 1)
  else if o.kind = 9 then inR o.a 0 (nm - 1)
  else if o.kind = 13 ∨ o.kind = 14 then inR o.a 0 3
  else inR o.kind 1 18 && decide (o.a = 0)
theorem opOk_N (p : GProg) (m : GMethod) (o : GOp) : opOk p m o = opN p.length m.temps m.ops.length o := rfl
theorem opN_mono {nm temps l l' : Int} {o : GOp} (h : opN nm temps l o = true) (hl : l ≤ l') : opN nm temps l' o = true := by
  unfold opN at *
  split
  · rename_i h1; rw [if_pos h1] at h; exact h
  rename_i h1; rw [if_neg h1] at h
  split
  · rename_i h1; rw [if_pos h1] at h; exact h
  rename_i h1; rw [if_neg h1] at h
  split
  · rename_i h1; rw [if_pos h1] at h; rw [inR_iff] at *; omega
  rename_i h1; rw [if_neg h1] at h
  exact h
section
variable {k o : Nat} {b : List Nat} {g0 : Heap'} {q : Int} {n : Nat} {g : Heap'} {nm t : Int}
/-- An operation is answered. -/
def OpQ (k o : Nat) (b : List Nat) (g0 : Heap') (q : Int) (n : Nat) (g : Heap') (nm t : Int) (v : AVal) (G : AG) : Prop := ∃ op g', v = aOp op ∧ G = ⟨n, g'⟩ ∧ opN nm t 1 op = true ∧ DS k o b g0 q n g' ∧ ∀ id, id ≠ o → g' id = g id
theorem end_124 (D : DS k o b g0 q n g) (hb : Cd b) (hq : q ≤ 90000) (ht : 1 ≤ t ∧ t ≤ 4) : Rn (run AP mt 124 [.ptr o 0 0, vi t] ⟨n, g⟩) (OpQ k o b g0 (q + 2) n g nm t) := by
  rw [run_evS AP_124 _ _ rfl]
  simp [c_124]
  refine bindR (P := fun y => Rn y _) (D.pick hb (by omega) 4 (by omega)) ?_
  rintro v G ⟨x, g1, rfl, rfl, x0, x1, -, D1, k1⟩
  have hx : x = 0 ∨ x = 1 ∨ x = 2 ∨ x = 3 := by have := x1 (by omega); omega
  have fin : ∀ op, opN nm t 1 op = true → Rn (some (aOp op, ⟨n, g1⟩)) (OpQ k o b g0 (q + 2) n g nm t) := fun op h => .mk ⟨op, g1, rfl, rfl, h, D1.mono (by omega) (Nat.le_refl _), k1⟩
  rcases hx with rfl | rfl | rfl | rfl
  · simp
    exact fin ⟨4, 0⟩ (by simp [opN, inR])
  · simp
    exact fin ⟨16, 0⟩ (by simp [opN, inR])
  · simp
    exact fin ⟨16, 0⟩ (by simp [opN, inR])
  · simp
    refine bindR (P := fun y => Rn y _) (D1.pick hb (by omega) t (by omega)) ?_
    rintro v G ⟨y, g2, rfl, rfl, y0, y1, -, D2, k2⟩
    simp
    have := y1 (by omega)
    exact .mk ⟨⟨3, y⟩, g2, rfl, rfl, by simp [opN, inR]; omega, D2.mono (by omega) (Nat.le_refl _), fun id h => (k2 id h).trans (k1 id h)⟩
end
end Go.Ai
set_option linter.unusedSimpArgs false
set_option linter.unusedVariables false
namespace Go.Ai
variable {mt : Nat → Nat → Option Nat}
attribute [local simp] cnd_ite gS_ite callBy_whole
section
variable {o : Nat} {b : List Nat} {q : Int} {n : Nat} {g : Heap'} {nm t : Int}
/-- Operations are answered, so many at most. -/
def LQ (o : Nat) (b : List Nat) (q : Int) (n : Nat) (g : Heap') (nm t : Int) (L : Nat) (v : AVal) (G : AG) : Prop := ∃ l n' g', G = ⟨n', g'⟩ ∧ DS n o b g q n' g' ∧ Ls eOp n n' l v g' ∧ (∀ op ∈ l, opN nm t 1 op = true) ∧ l.length ≤ L
theorem LQ.mono {q' : Int} {L L' : Nat} {v : AVal} {G : AG} (h : LQ o b q n g nm t L v G) (hq : q ≤ q') (hL : L ≤ L') : LQ o b q' n g nm t L' v G := by
  obtain ⟨l, n', g', rfl, D, h1, h2, h3⟩ := h
  exact ⟨l, n', g', rfl, D.mono hq (Nat.le_refl _), h1, h2, by omega⟩
theorem Rn.imp {x : R} {Φ Ψ : AVal → AG → Prop} (h : Rn x Φ) (k : ∀ v G, Φ v G → Ψ v G) : Rn x Ψ := by
  obtain ⟨v, G, h1, h2⟩ := h
  exact ⟨v, G, h1, k v G h2⟩
/-- What is put behind a list. -/
theorem LQ.app {v : AVal} {l : List GOp} {n' : Nat} {g' : Heap'} {L : Nat} (D : DS n o b g q n' g') (hL : Ls eOp n n' l v g') (ha : ∀ op ∈ l, opN nm t 1 op = true) (hl : l.length ≤ L) (hL0 : L ≤ 1000) {y : AVal} {l2 : List GOp} (hs : srcOf g' y = some (l2.map eOp)) (ha2 : ∀ op ∈ l2, opN nm t 1 op = true) {L2 : Nat} (hl2 : l2.length ≤ L2) (hL2 : L2 ≤ 1000) :
    Rn (appV 2 16 v y ⟨n', g'⟩) (LQ o b q n g nm t (L + L2)) := by
  refine (hL.app D.kn (z := 2) (bytes := 16) (fun _ => rfl) hs (by simp [maxA]; omega)).imp ?_
  rintro v' G ⟨n2, g2, rfl, h1, h2, h3⟩
  exact ⟨l ++ l2, n2, g2, rfl, D.heap h1 h3, h2, fun op hop => (List.mem_append.1 hop).elim (ha op) (ha2 op), by simp; omega⟩
theorem args_125 (D : DS n o b g q n g) (hb : Cd b) (hq : q ≤ 90000) (ht : 1 ≤ t ∧ t ≤ 4) (cnt : Int) (hc : 0 ≤ cnt ∧ cnt ≤ 2) : Rn (run AP mt 125 [.ptr o 0 0, vi cnt, vi t] ⟨n, g⟩) (LQ o b (q + 4) n g nm t 2) := by
  rw [run_evS AP_125 _ _ rfl]
  simp [c_125]
  refine loop_for (fun y => Rn y (LQ o b (q + 4) n g nm t 2)) cnt.toNat (fun i (v : AVal) => upd (upd (upd (upd (upd fr0 8 (vi i)) 7 v) 2 (vi t)) 1 (vi cnt)) 0 (.ptr o 0 0))
    (fun i v G => LQ o b (q + 2 * i) n g nm t i v G) (fun _ _ _ => u_125_0) ?_ ?_ cnt.toNat 0 .nils ⟨n, g⟩ (by omega) ⟨[], n, g, rfl, D.mono (by omega) (Nat.le_refl _), .nil, by simp, by simp⟩
  · rintro v G ⟨l, n', g', rfl, D1, h1, h2, h3⟩
    have hk := h1.ok
    have hcc : ((cnt.toNat : Nat) : Int) = cnt := by omega
    simp [b_125_0, hcc, hk.k, hk.g, hk.p]
    exact .mk ⟨l, n', g', rfl, D1.mono (by omega) (Nat.le_refl _), h1, h2, by omega⟩
  · rintro i v G hi ⟨l, n', g', rfl, D1, h1, h2, h3⟩ next
    have hk := h1.ok
    have hcc : (i : Int) < cnt := by omega
    have hwr : IntKind.i64.wrap ((i : Int) + 1) = (i : Int) + 1 := wrap_id (by omega) (by omega)
    simp [b_125_0, hcc, hk.k, hk.g, hk.p]
    refine bindR (P := fun y => Rn y _) (D1.pick hb (by omega) 4 (by omega)) ?_
    rintro v2 G ⟨x, g1, rfl, rfl, x0, x1, -, D2, k1⟩
    have hL2 : Ls eOp n n' l v g1 := h1.keep (Nat.le_refl _) (fun id h4 h5 => k1 id (by have := D.ok; omega))
    have hx : x = 0 ∨ x = 1 ∨ (¬ x = 0 ∧ ¬ x = 1) := by omega
    have fin : ∀ v' G', LQ o b (q + 2 * i + 2) n g nm t (i + 1) v' G' → Rn (evS AP mt (.loop l_125_0) (upd (upd (upd (upd (upd fr0 8 (vi ((i : Int) + 1))) 7 v') 2 (vi t)) 1 (vi cnt)) 0 (.ptr o 0 0)) G' _) (LQ o b (q + 4) n g nm t 2) := fun v' G' h => by
      have := next v' G' (by
        have e : q + 2 * ((i + 1 : Nat) : Int) = q + 2 * i + 2 := by omega
        rw [e]; exact h)
      simpa using this
    rcases hx with rfl | rfl | ⟨hx0, hx1⟩
    · simp [hk.k, hk.g, hk.p]
      refine bindR (P := fun y => Rn y _) (LQ.app (D2.mono (q' := q + 2 * i + 2) (by omega) (Nat.le_refl _)) hL2 h2 h3 (by omega) (l2 := [⟨11, 0⟩]) rfl (by simp [opN, inR]) (L2 := 1) (by simp) (by omega)) ?_
      intro v' G' hv
      obtain ⟨l', n2, g2, rfl, D3, h4, h5, h6⟩ := hv
      have hk' := h4.ok
      simp [hk'.k, hk'.g, hk'.p, hwr]
      exact fin v' ⟨n2, g2⟩ ⟨l', n2, g2, rfl, D3, h4, h5, h6⟩
    · simp [hk.k, hk.g, hk.p]
      refine bindR (P := fun y => Rn y _) (D2.pick hb (by omega) 10 (by omega)) ?_
      rintro v3 G ⟨y, g2, rfl, rfl, y0, y1, -, D3, k2⟩
      have := y1 (by omega)
      have hL3 : Ls eOp n n' l v g2 := hL2.keep (Nat.le_refl _) (fun id h4 h5 => k2 id (by have := D.ok; omega))
      simp [hk.k, hk.g, hk.p]
      refine bindR (P := fun y => Rn y _) (LQ.app (D3.mono (q' := q + 2 * i + 2) (by omega) (Nat.le_refl _)) hL3 h2 h3 (by omega) (l2 := [⟨1, y⟩]) rfl (by simp [opN, inR]; omega) (L2 := 1) (by simp) (by omega)) ?_
      intro v' G' hv
      obtain ⟨l', n2, g2, rfl, D3, h4, h5, h6⟩ := hv
      have hk' := h4.ok
      simp [hk'.k, hk'.g, hk'.p, hwr]
      exact fin v' ⟨n2, g2⟩ ⟨l', n2, g2, rfl, D3, h4, h5, h6⟩
    · simp [hx0, hx1, hk.k, hk.g, hk.p]
      refine bindR (P := fun y => Rn y _) (D2.pick hb (by omega) t (by omega)) ?_
      rintro v3 G ⟨y, g2, rfl, rfl, y0, y1, -, D3, k2⟩
      have := y1 (by omega)
      have hL3 : Ls eOp n n' l v g2 := hL2.keep (Nat.le_refl _) (fun id h4 h5 => k2 id (by have := D.ok; omega))
      simp [hk.k, hk.g, hk.p]
      refine bindR (P := fun y => Rn y _) (LQ.app (D3.mono (q' := q + 2 * i + 2) (by omega) (Nat.le_refl _)) hL3 h2 h3 (by omega) (l2 := [⟨2, y⟩]) rfl (by simp [opN, inR]; omega) (L2 := 1) (by simp) (by omega)) ?_
      intro v' G' hv
      obtain ⟨l', n2, g2, rfl, D3, h4, h5, h6⟩ := hv
      have hk' := h4.ok
      simp [hk'.k, hk'.g, hk'.p, hwr]
      exact fin v' ⟨n2, g2⟩ ⟨l', n2, g2, rfl, D3, h4, h5, h6⟩
/-- Operations two by two, all told. -/
theorem opsL_123 (D : DS n o b g q n g) (l : List Int) (hl : l.length ≤ 100) {L : Nat} (h1 : ∀ op ∈ pairs l, opN nm t 1 op = true) (h2 : (pairs l).length ≤ L) : Rn (run AP mt 123 [lInt l] ⟨n, g⟩) (LQ o b q n g nm t L) := by
  refine (ops_123 (mt := mt) l hl n g).imp ?_
  rintro v G ⟨n', g', rfl, h3, h4, h5⟩
  exact ⟨_, n', g', rfl, D.heap h3 h5, h4, h1, h2⟩
end
end Go.Ai
set_option linter.unusedSimpArgs false
set_option linter.unusedVariables false
namespace Go.Ai
variable {mt : Nat → Nat → Option Nat}
attribute [local simp] cnd_ite gS_ite callBy_whole
section
variable {o : Nat} {b : List Nat} {q : Int} {n : Nat} {g : Heap'} {nm t : Int}
/-- What is known of a list in work. -/
structure LW (o : Nat) (b : List Nat) (n : Nat) (g0 : Heap') (nm t : Int) (q : Int) (L : Nat) (l : List GOp) (v : AVal) (n' : Nat) (g : Heap') : Prop where
  D : DS n o b g0 q n' g
  ls : Ls eOp n n' l v g
  al : ∀ op ∈ l, opN nm t 1 op = true
  le : l.length ≤ L
section
variable {l : List GOp} {v : AVal} {n' : Nat} {g0 : Heap'} {L : Nat}
theorem LQ.lw {G : AG} (h : LQ o b q n g nm t L v G) : ∃ l n' g', G = ⟨n', g'⟩ ∧ LW o b n g nm t q L l v n' g' := by
  obtain ⟨l, n', g', rfl, h1, h2, h3, h4⟩ := h
  exact ⟨l, n', g', rfl, ⟨h1, h2, h3, h4⟩⟩
theorem LW.lq (W : LW o b n g0 nm t q L l v n' g) {q' : Int} {L' : Nat} (hq : q ≤ q') (hL : L ≤ L') : LQ o b q' n g0 nm t L' v ⟨n', g⟩ := ⟨l, n', g, rfl, W.D.mono hq (Nat.le_refl _), W.ls, W.al, by have := W.le; omega⟩
theorem LW.keep (W : LW o b n g0 nm t q L l v n' g) {q' : Int} {g' : Heap'} (D : DS n o b g0 q' n' g') (k : ∀ id, id ≠ o → g' id = g id) : LW o b n g0 nm t q' L l v n' g' := ⟨D, W.ls.keep (Nat.le_refl _) (fun id h4 h5 => k id (by have := D.ok; omega)), W.al, W.le⟩
theorem LW.app (W : LW o b n g0 nm t q L l v n' g) (hL0 : L ≤ 1000) {y : AVal} {l2 : List GOp} (hs : srcOf g y = some (l2.map eOp)) (ha2 : ∀ op ∈ l2, opN nm t 1 op = true) {L2 : Nat} (hl2 : l2.length ≤ L2) (hL2 : L2 ≤ 1000) : Rn (appV 2 16 v y ⟨n', g⟩) (LQ o b q n g0 nm t (L + L2)) :=
  LQ.app W.D W.ls W.al W.le hL0 hs ha2 hl2 hL2
theorem LW.ok (W : LW o b n g0 nm t q L l v n' g) : Ok1 v := W.ls.ok
/-- A part's answer, in a bigger work. -/
theorem LQ.join {k : Nat} {q' : Int} {L' : Nat} {n1 : Nat} {g1 : Heap'} (D : DS n o b g0 q n1 g1) {v : AVal} {G : AG} (h : LQ o b q' n1 g1 nm t L' v G) : LQ o b q' n g0 nm t L' v G := by
  obtain ⟨l, n', g', rfl, h1, h2, h3, h4⟩ := h
  exact ⟨l, n', g', rfl, D.join h1, h2.low D.kn, h3, h4⟩
end

theorem look_126 (D : DS n o b g q n g) (hb : Cd b) (hq : q ≤ 80000) (ht : 1 ≤ t ∧ t ≤ 4) : Rn (run AP mt 126 [.ptr o 0 0, vi t] ⟨n, g⟩) (LQ o b (q + 4) n g nm t 3) := by
  rw [run_evS AP_126 _ _ rfl]
  simp [c_126]
  refine bindR (P := fun y => Rn y _) (opsL_123 (mt := mt) (nm := nm) (t := t) D [11, 0] (by simp) (L := 1) (by simp [pairs, opN, inR]) (by simp [pairs])) ?_
  intro v G h
  obtain ⟨l, n1, g1, rfl, W⟩ := h.lw
  have hk := W.ok
  simp [hk.k, hk.g, hk.p]
  refine bindR (P := fun y => Rn y _) (W.D.pick hb (by omega) 5 (by omega)) ?_
  rintro w G ⟨x, g2, rfl, rfl, x0, x1, -, D2, k2⟩
  have W2 := W.keep D2 k2
  have two : ∀ (v : AVal) (G : AG) (fr : Fr), fr 5 = v → fr 0 = .ptr o 0 0 → LQ o b (q + 2) n g nm t 2 v G → Rn (retS AP mt (run AP mt 76 [.ptr o 0 0, vi 6] G) (some 23) [] fr [0, 5, 23] [.seq (.block 1
  (.seq (.reg [⟨0, some 25, none, .bin .eql (.t 23) (.c (.int .i64 0))⟩, xm 1 24 25] [0, 5, 23, 24])
  (.cond (.t 24)
  (.seq (.reg [xm 0 26 5,
    ⟨1, some 27, none, .build [.int .i64 0, .int .i64 0] [(0, 1, .c (.int .i64 12))]⟩,
    ⟨2, some 28, none, .litI 2 [.t 27]⟩,
    ⟨3, some 29, none, .app 2 16 (.t 26) (.t 28)⟩, xm 4 4 29] [4])
  .ret)
  (.seq (.seq (.reg [⟨0, some 31, none, .bin .eql (.t 23) (.c (.int .i64 1))⟩, xm 1 30 31] [0, 5, 23, 30])
  (.cond (.t 30)
  .skip
  (.reg [⟨0, some 32, none, .bin .eql (.t 23) (.c (.int .i64 2))⟩, xm 1 30 32] [0, 5, 23, 30])))
  (.cond (.t 30)
  (.seq (.reg [xm 0 33 5, xm 1 34 0,
    ⟨2, some 35, none, .call .whole 76 [.t 34, .c (.int .i64 4)]⟩,
    ⟨3, some 36, none, .build [.int .i64 0, .int .i64 0] [(0, 1, .c (.int .i64 13)), (1, 1, .t 35)]⟩,
    ⟨4, some 37, none, .litI 2 [.t 36]⟩,
    ⟨5, some 38, none, .app 2 16 (.t 33) (.t 37)⟩, xm 6 4 38] [4])
  .ret)
  (.seq (.reg [⟨0, some 40, none, .bin .eql (.t 23) (.c (.int .i64 3))⟩, xm 1 39 40] [5, 23, 39])
  (.cond (.t 39)
  (.seq (.reg [xm 0 41 5,
    ⟨1, some 42, none, .build [.int .i64 0, .int .i64 0] [(0, 1, .c (.int .i64 17))]⟩,
    ⟨2, some 43, none, .litI 2 [.t 42]⟩,
    ⟨3, some 44, none, .app 2 16 (.t 41) (.t 43)⟩, xm 4 4 44] [4])
  .ret)
  (.seq (.reg [⟨0, some 46, none, .bin .eql (.t 23) (.c (.int .i64 4))⟩, xm 1 45 46] [5, 45])
  (.cond (.t 45)
  (.seq (.reg [xm 0 47 5,
    ⟨1, some 48, none, .build [.int .i64 0, .int .i64 0] [(0, 1, .c (.int .i64 18))]⟩,
    ⟨2, some 49, none, .litI 2 [.t 48]⟩,
    ⟨3, some 50, none, .app 2 16 (.t 47) (.t 49)⟩, xm 4 4 50] [4])
  .ret)
  .skip))))))))), .seq (.seq (.reg [xm 0 51 5, xm 1 4 51] [4])
  .ret), .fin [.t 4]]) (LQ o b (q + 4) n g nm t 3) := by
    intro v G fr e5 e0 h
    obtain ⟨l, n1, g1, rfl, W⟩ := h.lw
    have hk := W.ok
    refine bindR (P := fun y => Rn y _) (W.D.pick hb (by omega) 6 (by omega)) ?_
    rintro w G ⟨y, g2, rfl, rfl, y0, y1, -, D2, k2⟩
    have y2 := y1 (by omega)
    have W2 := W.keep D2 k2
    have fin : ∀ (v : AVal) (G : AG), LQ o b (q + 4) n g nm t 3 v G → Rn (some (v, G)) (LQ o b (q + 4) n g nm t 3) := fun v G h => .mk h
    have hy : y = 0 ∨ y = 1 ∨ y = 2 ∨ y = 3 ∨ y = 4 ∨ y = 5 := by omega
    rcases hy with rfl | rfl | rfl | rfl | rfl | rfl
    · simp [hk.k, hk.g, hk.p, e5, e0]
      refine bindR (P := fun y => Rn y _) (W2.app (by omega) (l2 := [⟨12, 0⟩]) rfl (by simp [opN, inR]) (L2 := 1) (by simp) (by omega)) ?_
      intro v' G' h'
      obtain ⟨l', n3, g3, rfl, W3⟩ := h'.lw
      have hk' := W3.ok
      simp [hk'.k, hk'.g, hk'.p]
      exact fin v' ⟨n3, g3⟩ (W3.lq (by omega) (by omega))
    · simp [hk.k, hk.g, hk.p, e5, e0]
      refine bindR (P := fun y => Rn y _) (W2.D.pick hb (by omega) 4 (by omega)) ?_
      rintro w G ⟨z, g4, rfl, rfl, z0, z1, -, D4, k4⟩
      have z2 := z1 (by omega)
      have W4 := W2.keep D4 k4
      simp [hk.k, hk.g, hk.p]
      refine bindR (P := fun y => Rn y _) (W4.app (by omega) (l2 := [⟨13, z⟩]) rfl (by simp [opN, inR]; omega) (L2 := 1) (by simp) (by omega)) ?_
      intro v' G' h'
      obtain ⟨l', n3, g3, rfl, W3⟩ := h'.lw
      have hk' := W3.ok
      simp [hk'.k, hk'.g, hk'.p]
      exact fin v' ⟨n3, g3⟩ (W3.lq (by omega) (by omega))
    · simp [hk.k, hk.g, hk.p, e5, e0]
      refine bindR (P := fun y => Rn y _) (W2.D.pick hb (by omega) 4 (by omega)) ?_
      rintro w G ⟨z, g4, rfl, rfl, z0, z1, -, D4, k4⟩
      have z2 := z1 (by omega)
      have W4 := W2.keep D4 k4
      simp [hk.k, hk.g, hk.p]
      refine bindR (P := fun y => Rn y _) (W4.app (by omega) (l2 := [⟨13, z⟩]) rfl (by simp [opN, inR]; omega) (L2 := 1) (by simp) (by omega)) ?_
      intro v' G' h'
      obtain ⟨l', n3, g3, rfl, W3⟩ := h'.lw
      have hk' := W3.ok
      simp [hk'.k, hk'.g, hk'.p]
      exact fin v' ⟨n3, g3⟩ (W3.lq (by omega) (by omega))
    · simp [hk.k, hk.g, hk.p, e5, e0]
      refine bindR (P := fun y => Rn y _) (W2.app (by omega) (l2 := [⟨17, 0⟩]) rfl (by simp [opN, inR]) (L2 := 1) (by simp) (by omega)) ?_
      intro v' G' h'
      obtain ⟨l', n3, g3, rfl, W3⟩ := h'.lw
      have hk' := W3.ok
      simp [hk'.k, hk'.g, hk'.p]
      exact fin v' ⟨n3, g3⟩ (W3.lq (by omega) (by omega))
    · simp [hk.k, hk.g, hk.p, e5, e0]
      refine bindR (P := fun y => Rn y _) (W2.app (by omega) (l2 := [⟨18, 0⟩]) rfl (by simp [opN, inR]) (L2 := 1) (by simp) (by omega)) ?_
      intro v' G' h'
      obtain ⟨l', n3, g3, rfl, W3⟩ := h'.lw
      have hk' := W3.ok
      simp [hk'.k, hk'.g, hk'.p]
      exact fin v' ⟨n3, g3⟩ (W3.lq (by omega) (by omega))
    · simp [hk.k, hk.g, hk.p, e5, e0]
      exact fin v ⟨_, g2⟩ (W2.lq (by omega) (by omega))
  have x2 := x1 (by omega)
  have hx : x = 0 ∨ x = 1 ∨ x = 2 ∨ (x ≠ 0 ∧ x ≠ 1 ∧ x ≠ 2) := by omega
  rcases hx with rfl | rfl | rfl | ⟨h0, h1, h2⟩
  · simp [hk.k, hk.g, hk.p]
    refine bindR (P := fun y => Rn y _) (D2.pick hb (by omega) t (by omega)) ?_
    rintro w G ⟨z, g4, rfl, rfl, z0, z1, -, D4, k4⟩
    have z2 := z1 (by omega)
    simp
    refine bindR (P := fun y => Rn y _) ((opsL_123 (mt := mt) (nm := nm) (t := t) D4.start [2, z] (by simp) (L := 1) (by simp [pairs, opN, inR]; omega) (by simp [pairs])).imp (fun _ _ h => LQ.join (k := 0) D4 h)) ?_
    intro v' G' h'
    have h2 := h'.mono (q' := q + 2) (L' := 2) (by omega) (by omega)
    obtain ⟨l', n3, g3, rfl, W3⟩ := h'.lw
    have hk' := W3.ok
    simp [hk'.k, hk'.g, hk'.p]
    exact two _ _ _ rfl rfl h2
  · simp [hk.k, hk.g, hk.p]
    refine bindR (P := fun y => Rn y _) ((opsL_123 (mt := mt) (nm := nm) (t := t) D2.start [11, 0, 12, 0] (by simp) (L := 2) (by simp [pairs, opN, inR]) (by simp [pairs])).imp (fun _ _ h => LQ.join (k := 0) D2 h)) ?_
    intro v' G' h'
    have h2 := h'.mono (q' := q + 2) (L' := 2) (by omega) (by omega)
    obtain ⟨l', n3, g3, rfl, W3⟩ := h'.lw
    have hk' := W3.ok
    simp [hk'.k, hk'.g, hk'.p]
    exact two _ _ _ rfl rfl h2
  · simp [hk.k, hk.g, hk.p]
    refine bindR (P := fun y => Rn y _) ((opsL_123 (mt := mt) (nm := nm) (t := t) D2.start [11, 0, 12, 0] (by simp) (L := 2) (by simp [pairs, opN, inR]) (by simp [pairs])).imp (fun _ _ h => LQ.join (k := 0) D2 h)) ?_
    intro v' G' h'
    have h2 := h'.mono (q' := q + 2) (L' := 2) (by omega) (by omega)
    obtain ⟨l', n3, g3, rfl, W3⟩ := h'.lw
    have hk' := W3.ok
    simp [hk'.k, hk'.g, hk'.p]
    exact two _ _ _ rfl rfl h2
  · simp [h0, h1, h2, hk.k, hk.g, hk.p]
    exact two _ _ _ rfl rfl (W2.lq (by omega) (by omega))
end
end Go.Ai
set_option linter.unusedSimpArgs false
set_option linter.unusedVariables false
namespace Go.Ai
variable {mt : Nat → Nat → Option Nat}
attribute [local simp] cnd_ite gS_ite callBy_whole
section
variable {o : Nat} {b : List Nat} {q : Int} {n : Nat} {g : Heap'} {nm t : Int}
/-- How many values each method takes: a list of one's own that stays as it is. -/
structure ArgsR (o n : Nat) (g : Heap') (nm : Int) (ia : Nat) (la : List Int) : Prop where
  at_ : g ia = some (la.map i1)
  lt : ia < n
  ne : ia ≠ o
  in_ : ∀ a ∈ la, 0 ≤ a ∧ a ≤ 2
  len : (la.length : Int) = nm
  two : 1 ≤ nm ∧ nm ≤ 4
theorem ArgsR.get {ia : Nat} {la : List Int} (A : ArgsR o n g nm ia la) {x : Int} (h0 : 0 ≤ x) (h1 : x < nm) : ∃ a, la[x.toNat]? = some a ∧ 0 ≤ a ∧ a ≤ 2 := by
  have := A.len
  exact ⟨la[x.toNat]'(by omega), List.getElem?_eq_getElem _, A.in_ _ (List.getElem_mem _)⟩
theorem ArgsR.keep {ia : Nat} {la : List Int} (A : ArgsR o n g nm ia la) {n' : Nat} {g' : Heap'} (hn : n ≤ n') (k : ∀ id, id < n → id ≠ o → g' id = g id) : ArgsR o n' g' nm ia la := ⟨(k ia A.lt A.ne).trans A.at_, by have := A.lt; omega, A.ne, A.in_, A.len, A.two⟩
theorem part_113 (D : DS n o b g q n g) (hb : Cd b) (hq : q ≤ 70000) (ht : 1 ≤ t ∧ t ≤ 4) {ia : Nat} {la : List Int} (A : ArgsR o n g nm ia la) : Rn (run AP mt 113 [.ptr o 0 0, .slice ia 0 la.length, vi t] ⟨n, g⟩) (LQ o b (q + 8) n g nm t 4) := by
  have hA1 := A.len
  have hA2 := A.two
  rw [run_evS AP_113 _ _ rfl]
  simp [c_113]
  refine bindR (P := fun y => Rn y _) (D.pick hb (by omega) 10 (by omega)) ?_
  rintro w G ⟨x, g1, rfl, rfl, x0, x1, -, D1, k1⟩
  have x2 := x1 (by omega)
  have hx : x = 0 ∨ (x = 1 ∨ x = 2 ∨ x = 3) ∨ (x = 4 ∨ x = 5) ∨ x = 6 ∨ x = 7 ∨ x = 8 ∨ x = 9 := by omega
  rcases hx with rfl | hx | hx | rfl | rfl | rfl | rfl
  · simp
    refine bindR (P := fun y => Rn y _) (D1.pick hb (by omega) 20 (by omega)) ?_
    rintro w G ⟨y, g2, rfl, rfl, y0, y1, -, D2, k2⟩
    have y2 := y1 (by omega)
    simp
    refine bindR (P := fun y => Rn y _) ((opsL_123 (mt := mt) (nm := nm) (t := t) D2.start [1, y] (by simp) (L := 1) (by simp [pairs, opN, inR]; omega) (by simp [pairs])).imp (fun _ _ h => LQ.join (k := 0) D2 h)) ?_
    intro v G h
    obtain ⟨l, n5, g5, rfl, W⟩ := h.lw
    have hk := W.ok
    simp [hk.k, hk.g, hk.p]
    refine bindR (P := fun y => Rn y _) (end_124 (mt := mt) (nm := nm) W.D hb (by omega) ht) ?_
    rintro w G ⟨op, g6, rfl, rfl, hop, D6, k6⟩
    have W6 := W.keep D6 k6
    simp [hk.k, hk.g, hk.p]
    refine bindR (P := fun y => Rn y _) (W6.app (by omega) (l2 := [op]) rfl (by simpa using hop) (L2 := 1) (by simp) (by omega)) ?_
    intro v' G' h'
    obtain ⟨l', n7, g7, rfl, W7⟩ := h'.lw
    have hk' := W7.ok
    simp [hk'.k, hk'.g, hk'.p]
    exact .mk (W7.lq (by omega) (by omega))
  · have key : ∀ fr : Fr, fr 0 = .ptr o 0 0 → fr 1 = .slice ia 0 la.length → fr 2 = vi t → Rn (retS AP mt (run AP mt 76 [.ptr o 0 0, vi la.length] ⟨n, g1⟩) (some 29) [xm 4 7 29] fr [0, 1, 2, 7] [.seq (.seq (.reg [xm 0 30 0, xm 1 31 1, xm 2 32 7, xi 3 33 1 31 32, xl 4 34 33, xm 5 35 2,
    ⟨6, some 36, none, .call .whole 125 [.t 30, .t 34, .t 35]⟩, xm 7 37 7,
    ⟨8, some 38, none, .build [.int .i64 0, .int .i64 0] [(0, 1, .c (.int .i64 9)), (1, 1, .t 37)]⟩,
    ⟨9, some 39, none, .litI 2 [.t 38]⟩,
    ⟨10, some 40, none, .app 2 16 (.t 36) (.t 39)⟩, xm 11 8 40] [0, 2, 8])
  (.seq (.reg [xm 0 41 8, xm 1 42 0, xm 2 43 2,
    ⟨3, some 44, none, .call .whole 124 [.t 42, .t 43]⟩,
    ⟨4, some 45, none, .litI 2 [.t 44]⟩,
    ⟨5, some 46, none, .app 2 16 (.t 41) (.t 45)⟩, xm 6 6 46] [6])
  .ret)), .block 0, .seq (.seq (.reg [xm 0 96 0,
    ⟨1, some 97, none, .call .whole 76 [.t 96, .c (.int .i64 50)]⟩, xm 2 98 0,
    ⟨3, some 99, none, .call .whole 76 [.t 98, .c (.int .i64 50)]⟩,
    ⟨4, some 100, none, .litI 1 [.c (.int .i64 1), .t 97, .c (.int .i64 1), .t 99, .c (.int .i64 5), .c (.int .i64 0), .c (.int .i64 16), .c (.int .i64 0)]⟩,
    ⟨5, some 101, none, .call .whole 123 [.t 100]⟩, xm 6 6 101] [6])
  .ret), .fin [.t 6]]) (LQ o b (q + 8) n g nm t 4) := by
      intro fr e0 e1 e2
      refine bindR (P := fun y => Rn y _) (D1.pick hb (by omega) la.length (by omega)) ?_
      rintro w G ⟨y, g2, rfl, rfl, y0, y1, -, D2, k2⟩
      have y2 := y1 (by omega)
      obtain ⟨a, ha, a0, a1⟩ := A.get y0 (by omega)
      have A2 := A.keep (Nat.le_refl _) (fun id h1 h2 => (k2 id h2).trans (k1 id h2))
      have hix : idxV 1 (.slice ia 0 la.length) (vi y) g2 = some (.ptr ia y.toNat 0) := by
        have := idx_slice (z := 1) (k := .i64) (off := 0) (len := la.length) (e := [vi a]) y0 (by omega) A2.at_ (by simp [ha]) rfl
        simpa using this
      have hat := A2.at_
      simp [e0, e1, e2, hix, hat, ha]
      refine bindR (P := fun y => Rn y _) ((args_125 (mt := mt) (nm := nm) D2.start hb (by omega) ht a ⟨a0, a1⟩).imp (fun _ _ h => LQ.join (k := 0) D2 h)) ?_
      intro v G h
      obtain ⟨l, n5, g5, rfl, W⟩ := h.lw
      have hk := W.ok
      simp [hk.k, hk.g, hk.p]
      refine bindR (P := fun y => Rn y _) (W.app (by omega) (l2 := [⟨9, y⟩]) rfl (by simp [opN, inR]; omega) (L2 := 1) (by simp) (by omega)) ?_
      intro v G h
      obtain ⟨l, n5, g5, rfl, W⟩ := h.lw
      have hk := W.ok
      simp [hk.k, hk.g, hk.p]
      refine bindR (P := fun y => Rn y _) (end_124 (mt := mt) (nm := nm) W.D hb (by omega) ht) ?_
      rintro w G ⟨op, g6, rfl, rfl, hop, D6, k6⟩
      have W6 := W.keep D6 k6
      simp [hk.k, hk.g, hk.p]
      refine bindR (P := fun y => Rn y _) (W6.app (by omega) (l2 := [op]) rfl (by simpa using hop) (L2 := 1) (by simp) (by omega)) ?_
      intro v' G' h'
      obtain ⟨l', n7, g7, rfl, W7⟩ := h'.lw
      have hk' := W7.ok
      simp [hk'.k, hk'.g, hk'.p]
      exact .mk (W7.lq (by omega) (by omega))
    rcases hx with rfl | rfl | rfl
    · simp
      refine key _ ?_ ?_ ?_ <;> rfl
    · simp
      refine key _ ?_ ?_ ?_ <;> rfl
    · simp
      refine key _ ?_ ?_ ?_ <;> rfl
  · have key : ∀ fr : Fr, fr 0 = .ptr o 0 0 → fr 2 = vi t → Rn (retS AP mt (run AP mt 126 [.ptr o 0 0, vi t] ⟨n, g1⟩) (some 52) [xm 3 53 0, xm 4 54 2,
    ⟨5, some 55, none, .call .whole 124 [.t 53, .t 54]⟩,
    ⟨6, some 56, none, .litI 2 [.t 55]⟩,
    ⟨7, some 57, none, .app 2 16 (.t 52) (.t 56)⟩, xm 8 6 57] fr [6] [.seq .ret, .block 0, .seq (.seq (.reg [xm 0 96 0,
    ⟨1, some 97, none, .call .whole 76 [.t 96, .c (.int .i64 50)]⟩, xm 2 98 0,
    ⟨3, some 99, none, .call .whole 76 [.t 98, .c (.int .i64 50)]⟩,
    ⟨4, some 100, none, .litI 1 [.c (.int .i64 1), .t 97, .c (.int .i64 1), .t 99, .c (.int .i64 5), .c (.int .i64 0), .c (.int .i64 16), .c (.int .i64 0)]⟩,
    ⟨5, some 101, none, .call .whole 123 [.t 100]⟩, xm 6 6 101] [6])
  .ret), .fin [.t 6]]) (LQ o b (q + 8) n g nm t 4) := by
      intro fr e0 e2
      refine bindR (P := fun y => Rn y _) ((look_126 (mt := mt) (nm := nm) D1.start hb (by omega) ht).imp (fun _ _ h => LQ.join (k := 0) D1 h)) ?_
      intro v G h
      obtain ⟨l, n5, g5, rfl, W⟩ := h.lw
      have hk := W.ok
      simp [e0, e2, hk.k, hk.g, hk.p]
      refine bindR (P := fun y => Rn y _) (end_124 (mt := mt) (nm := nm) W.D hb (by omega) ht) ?_
      rintro w G ⟨op, g6, rfl, rfl, hop, D6, k6⟩
      have W6 := W.keep D6 k6
      simp [hk.k, hk.g, hk.p]
      refine bindR (P := fun y => Rn y _) (W6.app (by omega) (l2 := [op]) rfl (by simpa using hop) (L2 := 1) (by simp) (by omega)) ?_
      intro v' G' h'
      obtain ⟨l', n7, g7, rfl, W7⟩ := h'.lw
      have hk' := W7.ok
      simp [hk'.k, hk'.g, hk'.p]
      exact .mk (W7.lq (by omega) (by omega))
    rcases hx with rfl | rfl
    · simp
      refine key _ ?_ ?_ <;> rfl
    · simp
      refine key _ ?_ ?_ <;> rfl
  · simp
    refine bindR (P := fun y => Rn y _) (D1.pick hb (by omega) t (by omega)) ?_
    rintro w G ⟨y, g2, rfl, rfl, y0, y1, -, D2, k2⟩
    have y2 := y1 (by omega)
    simp
    refine bindR (P := fun y => Rn y _) ((opsL_123 (mt := mt) (nm := nm) (t := t) D2.start [11, 0, 3, y] (by simp) (L := 2) (by simp [pairs, opN, inR]; omega) (by simp [pairs])).imp (fun _ _ h => LQ.join (k := 0) D2 h)) ?_
    intro v G h
    obtain ⟨l, n5, g5, rfl, W⟩ := h.lw
    have hk := W.ok
    simp [hk.k, hk.g, hk.p]
    exact .mk (W.lq (by omega) (by omega))
  · simp
    refine bindR (P := fun y => Rn y _) (D1.pick hb (by omega) 2 (by omega)) ?_
    rintro w G ⟨y, g2, rfl, rfl, y0, y1, -, D2, k2⟩
    have y2 := y1 (by omega)
    by_cases hy : y = 0
    · simp [hy]
      refine bindR (P := fun y => Rn y _) (D2.pick hb (by omega) 9 (by omega)) ?_
      rintro w G ⟨z, g3, rfl, rfl, z0, z1, -, D3, k3⟩
      have z2 := z1 (by omega)
      simp
      refine bindR (P := fun y => Rn y _) (D3.pick hb (by omega) 4 (by omega)) ?_
      rintro w G ⟨u, g4, rfl, rfl, u0, u1, -, D4, k4⟩
      have u2 := u1 (by omega)
      simp
      refine bindR (P := fun y => Rn y _) ((opsL_123 (mt := mt) (nm := nm) (t := t) D4.start [11, 0, 12, 0, 1, z, 14, u] (by simp) (L := 4) (by simp [pairs, opN, inR]; omega) (by simp [pairs])).imp (fun _ _ h => LQ.join (k := 0) D4 h)) ?_
      intro v G h
      obtain ⟨l, n5, g5, rfl, W⟩ := h.lw
      have hk := W.ok
      simp [hk.k, hk.g, hk.p]
      exact .mk (W.lq (by omega) (by omega))
    · simp [hy]
      refine bindR (P := fun y => Rn y _) (D2.pick hb (by omega) t (by omega)) ?_
      rintro w G ⟨z, g3, rfl, rfl, z0, z1, -, D3, k3⟩
      have z2 := z1 (by omega)
      simp
      refine bindR (P := fun y => Rn y _) (D3.pick hb (by omega) t (by omega)) ?_
      rintro w G ⟨u, g4, rfl, rfl, u0, u1, -, D4, k4⟩
      have u2 := u1 (by omega)
      simp
      refine bindR (P := fun y => Rn y _) ((opsL_123 (mt := mt) (nm := nm) (t := t) D4.start [2, z, 2, u, 6, 0, 16, 0] (by simp) (L := 4) (by simp [pairs, opN, inR]; omega) (by simp [pairs])).imp (fun _ _ h => LQ.join (k := 0) D4 h)) ?_
      intro v G h
      obtain ⟨l, n5, g5, rfl, W⟩ := h.lw
      have hk := W.ok
      simp [hk.k, hk.g, hk.p]
      exact .mk (W.lq (by omega) (by omega))
  · simp
    refine bindR (P := fun y => Rn y _) (D1.pick hb (by omega) t (by omega)) ?_
    rintro w G ⟨z, g3, rfl, rfl, z0, z1, -, D3, k3⟩
    have z2 := z1 (by omega)
    simp
    refine bindR (P := fun y => Rn y _) (D3.pick hb (by omega) 9 (by omega)) ?_
    rintro w G ⟨u, g4, rfl, rfl, u0, u1, -, D4, k4⟩
    have u2 := u1 (by omega)
    simp
    refine bindR (P := fun y => Rn y _) ((opsL_123 (mt := mt) (nm := nm) (t := t) D4.start [2, z, 1, u, 15, 0] (by simp) (L := 3) (by simp [pairs, opN, inR]; omega) (by simp [pairs])).imp (fun _ _ h => LQ.join (k := 0) D4 h)) ?_
    intro v G h
    obtain ⟨l, n5, g5, rfl, W⟩ := h.lw
    have hk := W.ok
    simp [hk.k, hk.g, hk.p]
    refine bindR (P := fun y => Rn y _) (W.app (by omega) (l2 := [⟨4, 0⟩]) rfl (by simp [opN, inR]) (L2 := 1) (by simp) (by omega)) ?_
    intro v' G' h'
    obtain ⟨l', n7, g7, rfl, W7⟩ := h'.lw
    have hk' := W7.ok
    simp [hk'.k, hk'.g, hk'.p]
    exact .mk (W7.lq (by omega) (by omega))
  · simp
    refine bindR (P := fun y => Rn y _) (D1.pick hb (by omega) 50 (by omega)) ?_
    rintro w G ⟨z, g3, rfl, rfl, z0, z1, -, D3, k3⟩
    have z2 := z1 (by omega)
    simp
    refine bindR (P := fun y => Rn y _) (D3.pick hb (by omega) 50 (by omega)) ?_
    rintro w G ⟨u, g4, rfl, rfl, u0, u1, -, D4, k4⟩
    have u2 := u1 (by omega)
    simp
    refine bindR (P := fun y => Rn y _) ((opsL_123 (mt := mt) (nm := nm) (t := t) D4.start [1, z, 1, u, 5, 0, 16, 0] (by simp) (L := 4) (by simp [pairs, opN, inR]; omega) (by simp [pairs])).imp (fun _ _ h => LQ.join (k := 0) D4 h)) ?_
    intro v G h
    obtain ⟨l, n5, g5, rfl, W⟩ := h.lw
    have hk := W.ok
    simp [hk.k, hk.g, hk.p]
    exact .mk (W.lq (by omega) (by omega))
end
end Go.Ai
