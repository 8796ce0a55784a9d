/- The specification's chain of calls. The specification's HeapOk and HeapNext. The specification's HeapOk and HeapNext. -/
import Derived.Test.YtffliemhdjcflaaB5
set_option linter.unusedSimpArgs false
set_option linter.unusedVariables false
namespace Go.Ai
variable {mt : Nat → Nat → Option Nat}
attribute [local simp] cnd_ite gS_ite
abbrev i1 (n : Int) : List AVal := [vi n]
theorem lenV_list {es : Obj'} : lenV (.list es) = some (.int .i64 es.length) := rfl
/-- A list that grows, and its place in the heap. -/
def Rep (out : List Int) (v : AVal) (g : Heap') : Prop := (out = [] ∧ v = .nils ∧ g = noObj) ∨ (out ≠ [] ∧ ∃ id, v = .slice id 0 out.length ∧ g = updO noObj id (some (out.map i1)))
theorem Rep.app {out : List Int} {v : AVal} {g : Heap'} (h : Rep out v g) (x : Int) (n : Nat) (hl : out.length ≤ 2097152) : ∃ v' g', appV 1 8 v (.list [[vi x]]) ⟨n, g⟩ = some (v', ⟨n + 1, g'⟩) ∧ Rep (out ++ [x]) v' g' := by
  rcases h with ⟨rfl, rfl, rfl⟩ | ⟨hne, id, rfl, rfl⟩
  · refine ⟨.slice n 0 1, updO noObj n (some [[vi x]]), ?_, .inr ⟨by simp, n, by simp, by simp⟩⟩
    simp [appV, srcOf, maxA]
  · refine ⟨.slice n 0 (out.length + 1), updO noObj n (some (out.map i1 ++ [[vi x]])), ?_, .inr ⟨by simp, n, by simp, by simp⟩⟩
    have he : (updO noObj id (some (out.map i1))) id = some (out.map i1) := by simp [updO]
    have hu : updO (updO (updO noObj id (some (out.map i1))) id none) n (some (out.map i1 ++ [[vi x]])) = updO noObj n (some (out.map i1 ++ [[vi x]])) := by
      funext t
      simp only [updO]
      split
      · rfl
      · split
        · rfl
        · rfl
    have hm : out.map i1 ≠ [] := by simp [hne]
    have hc : ∀ e ∈ out.map i1, e.length = 1 := by simp
    have hb : (out.length + 1) * 8 ≤ 1099511627776 := by omega
    simp [appV, srcOf, he, hu, hne, maxA, hb]
def chainF (calls : List GCall) : Nat → Int → List Int → List Int
  | 0, at', out => if at' < 0 then out else []
  | f + 1, at', out => if at' < 0 then out else if calls.length ≤ at' then [] else match calls[at'.toNat]? with
    | some c => if c.dead then [] else chainF calls f c.sender (out ++ [at'])
    | none => []
def chain (h : GHeap) : List Int := chainF h.calls h.calls.length h.now []
theorem al_40 (h : GHeap) (hl : h.calls.length ≤ 2097152) (k : Nat) (S : List KF) (hR : ∀ fr m g, k ≤ m → fr 2 = .nils → Gv k (lInt []) (unw AP mt .ret fr ⟨m, g⟩ S))
    (hE : ∀ fr m g out, k ≤ m → Rep out (fr 3) g → Gv k (lInt out) (unw AP mt (.exit 0) fr ⟨m, g⟩ S)) :
    ∀ (f : Nat) (at' : Int) (out : List Int) (v : AVal) (g : Heap') (n : Nat), f + out.length = h.calls.length → k ≤ n → Rep out v g →
      Gv k (lInt (chainF h.calls f at' out)) (evS AP mt (.loop l_40_0) (upd (upd (upd fr0 4 (vi at')) 3 v) 1 (.pbox [lCall h.calls, vi h.now, vi h.born, lVal h.said, vi h.code])) ⟨n, g⟩ S) := by
  have hkv : ∀ {out v g}, Rep out v g → kv v = v ∧ gv v = some v ∧ (∀ d, pv d v = v) ∧ lenV v = some (vi out.length) := by
    intro out v g hr
    rcases hr with ⟨rfl, rfl, rfl⟩ | ⟨_, id, rfl, rfl⟩
    · exact ⟨rfl, rfl, fun _ => rfl, rfl⟩
    · exact ⟨rfl, rfl, fun _ => rfl, rfl⟩
  intro f
  induction f with
  | zero =>
    intro at' out v g n hf hn hr
    obtain ⟨k1, k2, k3, k4⟩ := hkv hr
    rw [S_loop]
    by_cases ha : at' < 0
    · have ha' : ¬ 0 ≤ at' := by omega
      simp [-lenV, lenV_list, u_40_0, b_40_0, ha, ha', chainF, k1, k2, k3, k4]
      exact hE _ _ _ _ hn (by simpa using hr)
    · have ha' : 0 ≤ at' := by omega
      have hc : (h.calls.length : Int) ≤ out.length := by omega
      simp [-lenV, lenV_list, u_40_0, b_40_0, ha, ha', chainF, k1, k2, k3, k4, hc]
      exact hR _ _ _ hn (by simp)
  | succ f ih =>
    intro at' out v g n hf hn hr
    obtain ⟨k1, k2, k3, k4⟩ := hkv hr
    rw [S_loop]
    by_cases ha : at' < 0
    · have ha' : ¬ 0 ≤ at' := by omega
      simp [-lenV, lenV_list, u_40_0, b_40_0, ha, ha', chainF, k1, k2, k3, k4]
      exact hE _ _ _ _ hn (by simpa using hr)
    have ha' : 0 ≤ at' := by omega
    have hc : ¬ ((h.calls.length : Int) ≤ out.length) := by omega
    by_cases hb : (h.calls.length : Int) ≤ at'
    · simp [-lenV, lenV_list, u_40_0, b_40_0, ha, ha', chainF, k1, k2, k3, k4, hc, hb]
      exact hR _ _ _ hn (by simp)
    obtain ⟨c, hcc⟩ : ∃ c, h.calls[at'.toNat]? = some c := ⟨_, List.getElem?_eq_getElem (by omega)⟩
    have hix := fun g => idx_ok (g := g) (k := .i64) (w_Call h.calls) (show (0:Int) ≤ at' by omega) (by simp; omega)
    cases hd : c.dead
    · obtain ⟨v', g', h1, h2⟩ := hr.app at' n (by omega)
      obtain ⟨j1, j2, j3, j4⟩ := hkv h2
      have hi := ih c.sender (out ++ [at']) v' g' (n + 1) (by simp; omega) (by omega) h2
      simp [-lenV, lenV_list, u_40_0, b_40_0, ha, ha', chainF, k1, k2, k3, k4, hc, hb, hix, hcc, hd, h1, j1, j2, j3, j4]
      exact hi
    · simp [-lenV, lenV_list, u_40_0, b_40_0, ha, ha', chainF, k1, k2, k3, k4, hc, hb, hix, hcc, hd]
      exact hR _ _ _ hn (by simp)
theorem frz_rep {out : List Int} {v : AVal} {g : Heap'} (h : Rep out v g) : frz 8 g v = some (lInt out) := by
  rcases h with ⟨rfl, rfl, rfl⟩ | ⟨_, id, rfl, rfl⟩
  · rfl
  · refine frz_sl (es := out.map i1) (by simp [updO]) (by simp) (omap_id (fun x hx => ?_))
    obtain ⟨m, _, rfl⟩ := List.mem_map.1 hx
    rfl
theorem r_40 (h : GHeap) (hl : h.calls.length ≤ 2097152) : Q mt 40 [aHeap h] (lInt (chain h)) := by
  refine Q.of rfl (fun k => ?_)
  rw [run_evS AP_40 _ _ rfl]
  simp [c_40]
  refine al_40 (mt := mt) h hl k _ (fun fr m g hm h2 => ?_) (fun fr m g out hm hr => ?_) h.calls.length h.now [] .nils noObj k (by simp) (Nat.le_refl _) (.inl ⟨rfl, rfl, rfl⟩)
  · simp [h2]; exact Gv.some hm rfl
  · have hz := frz_rep hr
    generalize hv : fr 3 = v at hr hz
    rcases hr with ⟨rfl, rfl, rfl⟩ | ⟨_, id, rfl, rfl⟩
    · simp [hv]; exact Gv.some hm hz
    · simp [hv]; exact Gv.some hm hz
end Go.Ai
set_option linter.unusedSimpArgs false
set_option linter.unusedVariables false
namespace Go.Ai
variable {mt : Nat → Nat → Option Nat}
attribute [local simp] cnd_ite gS_ite
theorem chainF_mem (calls : List GCall) : ∀ (f : Nat) (at' : Int) (out : List Int), (∀ x ∈ out, 0 ≤ x ∧ x < calls.length) → ∀ x ∈ chainF calls f at' out, 0 ≤ x ∧ x < calls.length := by
  intro f
  induction f with
  | zero =>
    intro at' out ho x hx
    simp only [chainF] at hx
    split at hx
    · exact ho x hx
    · cases hx
  | succ f ih =>
    intro at' out ho x hx
    simp only [chainF] at hx
    split at hx
    · exact ho x hx
    · split at hx
      · cases hx
      · split at hx
        · split at hx
          · cases hx
          · refine ih _ _ (fun y hy => ?_) x hx
            rcases List.mem_append.1 hy with hy | hy
            · exact ho y hy
            · simp at hy; omega
        · cases hx
theorem chain_mem (h : GHeap) : ∀ x ∈ chain h, 0 ≤ x ∧ x < h.calls.length := chainF_mem h.calls _ _ _ (by simp)
theorem chainF_len (calls : List GCall) : ∀ (f : Nat) (at' : Int) (out : List Int), f + out.length ≤ calls.length → (chainF calls f at' out).length ≤ calls.length := by
  intro f
  induction f with
  | zero =>
    intro at' out h
    simp only [chainF]
    split
    · omega
    · simp
  | succ f ih =>
    intro at' out h
    simp only [chainF]
    split
    · omega
    · split
      · simp
      · split
        · split
          · simp
          · exact ih _ _ (by simp; omega)
        · simp
theorem chain_len (h : GHeap) : (chain h).length ≤ h.calls.length := chainF_len h.calls _ _ _ (by simp)
def roomAt (h : GHeap) (x : Int) : Bool := match h.calls[x.toNat]? with | some c => decide (c.stack.length < 6) | none => false
def waitOk (h : GHeap) : Bool := ((chain h).drop 1).all (roomAt h)
theorem al_58 (h : GHeap)  (hl : (chain h).length ≤ 1099511627776) (k : Nat) (S : List KF)
    (hR : ∀ fr m, k ≤ m → fr 2 = .bool false → Gv k (.bool false) (unw AP mt .ret fr ⟨m, noObj⟩ S)) (hE : ∀ fr m, k ≤ m → Gv k (.bool true) (unw AP mt (.exit 0) fr ⟨m, noObj⟩ S)) :
    ∀ (j i n : Nat), i + j = (chain h).length → k ≤ n → Gv k (.bool (((chain h).drop i).all (roomAt h))) (evS AP mt (.loop l_58_0) (upd (upd (upd fr0 4 (vi i)) 3 (lInt (chain h))) 1 (.pbox [lCall h.calls, vi h.now, vi h.born, lVal h.said, vi h.code])) ⟨n, noObj⟩ S) := by
  intro j
  induction j with
  | zero =>
    intro i n hij hn
    rw [S_loop]
    have hc : ¬ ((i : Int) < (chain h).length) := by omega
    have hd : (chain h).drop i = [] := List.drop_eq_nil_iff.2 (by omega)
    simp [u_58_0, b_58_0, hc, hd]
    exact hE _ _ hn
  | succ j ih =>
    intro i n hij hn
    have hlt : i < (chain h).length := by omega
    obtain ⟨m, hm⟩ : ∃ m, (chain h)[i]? = some m := ⟨_, List.getElem?_eq_getElem hlt⟩
    have hmm := List.mem_of_getElem? hm
    have hc : (i : Int) < (chain h).length := by omega
    have hwr : IntKind.i64.wrap ((i : Int) + 1) = (i : Int) + 1 := wrap_id (by omega) (by omega)
    have hix := fun g => idx_ok (g := g) (k := .i64) (w_Int (chain h)) (show (0:Int) ≤ i by omega) (by simpa using hc)
    have hi := fun n' h' => ih (i + 1) n' (by omega) h'
    rw [drop_cons hm, S_loop]
    rw [show ((i + 1 : Nat) : Int) = (i : Int) + 1 from by omega] at hi
    simp only [List.all_cons]
    obtain ⟨hx0, hx1⟩ := chain_mem h m hmm
    obtain ⟨c, hcc⟩ : ∃ c, h.calls[m.toNat]? = some c := ⟨_, List.getElem?_eq_getElem (by omega)⟩
    have hix2 := fun g => idx_ok (g := g) (k := .i64) (w_Call h.calls) (show (0:Int) ≤ m by omega) (by simp; omega)
    by_cases hP : c.stack.length < 6
    · have hP' : ¬ 6 ≤ (c.stack.length : Int) := by omega
      simp [u_58_0, b_58_0, hc, hix, hix2, hm, hwr, hcc, hP', roomAt, hP]
      exact hi _ (by repeat (first | exact hn | apply le_nxt))
    · have hP' : 6 ≤ (c.stack.length : Int) := by omega
      simp [u_58_0, b_58_0, hc, hix, hix2, hm, hwr, hcc, hP', roomAt, hP]
      exact hR _ _ (by repeat (first | exact hn | apply le_nxt)) (by simp)

theorem r_58 (h : GHeap) (hl : h.calls.length ≤ 2097152) : Q mt 58 [aHeap h] (.bool (waitOk h)) := by
  have q := r_40 (mt := mt) h hl
  unfold Q at q
  refine Q.of rfl (fun k => ?_)
  rw [run_evS AP_58 _ _ rfl]
  simp [c_58, q]
  unfold waitOk
  have hcl := chain_len h
  by_cases h1 : 1 ≤ (chain h).length
  · refine al_58 (mt := mt) h (by omega) k _ (fun fr m hm h => ?_) (fun fr m hm => ?_) ((chain h).length - 1) 1 _ (by omega) (by repeat (first | exact Nat.le_refl _ | apply le_nxt))
    · simp [h]; exact Gv.bool hm rfl
    · simp; exact Gv.bool hm rfl
  · have h0 : chain h = [] := List.length_eq_zero_iff.1 (by omega)
    rw [S_loop]
    simp [u_58_0, b_58_0, h0]
    exact Gv.bool (by repeat (first | exact Nat.le_refl _ | apply le_nxt)) rfl
def live' (l : List GCall) : Int := ((l.filter (fun c => !c.dead)).length : Int)
theorem al_25 (p : GProg) (h : GHeap) (hp : ShP p) (hh : ShH h) (k : Nat) (S : List KF) (vF : AVal) (vE : Int → AVal)
    (hR : ∀ fr m, k ≤ m → fr 4 = .bool false → Gv k vF (unw AP mt .ret fr ⟨m, noObj⟩ S))
    (hE : ∀ lv fr m, k ≤ m → fr 2 = .pbox [lMethod p] → fr 3 = .pbox [lCall h.calls, vi h.now, vi h.born, lVal h.said, vi h.code] → fr 6 = vi lv → Gv k (vE lv) (unw AP mt (.exit 0) fr ⟨m, noObj⟩ S)) :
    ∀ (j i n : Nat) (lv : Int), i + j = h.calls.length → k ≤ n → 0 ≤ lv ∧ lv ≤ i →
      Gv k (if (h.calls.drop i).all (fun c => formOk p c h.calls.length) = true then vE (lv + live' (h.calls.drop i)) else vF)
        (evS AP mt (.loop l_25_0) (upd (upd (upd (upd (upd fr0 7 (vi i)) 6 (vi lv)) 5 (vi h.calls.length)) 3 (.pbox [lCall h.calls, vi h.now, vi h.born, lVal h.said, vi h.code])) 2 (.pbox [lMethod p])) ⟨n, noObj⟩ S) := by
  have hhl := hh.l
  intro j
  induction j with
  | zero =>
    intro i n lv hij hn hlv
    rw [S_loop]
    have hc : ¬ ((i : Int) < h.calls.length) := by omega
    have hd : h.calls.drop i = [] := List.drop_eq_nil_iff.2 (by omega)
    simp [u_25_0, b_25_0, hc, hd, live']
    exact hE _ _ _ hn (by simp) (by simp) (by simp)
  | succ j ih =>
    intro i n lv hij hn hlv
    have hlt : i < h.calls.length := by omega
    obtain ⟨m, hm⟩ : ∃ m, h.calls[i]? = some m := ⟨_, List.getElem?_eq_getElem hlt⟩
    have hmm := List.mem_of_getElem? hm
    have hc : (i : Int) < h.calls.length := by omega
    have hwr : IntKind.i64.wrap ((i : Int) + 1) = (i : Int) + 1 := wrap_id (by omega) (by omega)
    have hwl : IntKind.i64.wrap (lv + 1) = lv + 1 := wrap_id (by omega) (by omega)
    have hix := fun g => idx_ok (g := g) (k := .i64) (w_Call h.calls) (show (0:Int) ≤ i by omega) (by simpa using hc)
    have q := r_57 (mt := mt) p m h.calls.length hp ⟨by omega, by omega⟩ (hh.c m hmm)
    unfold Q at q
    have hi := fun n' lv' h' h'' => ih (i + 1) n' lv' (by omega) h' h''
    rw [show ((i + 1 : Nat) : Int) = (i : Int) + 1 from by omega] at hi
    rw [drop_cons hm, S_loop]
    simp only [List.all_cons]
    rcases Bool.eq_false_or_eq_true (formOk p m h.calls.length) with hP | hP
    rotate_left
    · simp [u_25_0, b_25_0, hc, hix, hm, hwr, q, hP]
      exact hR _ _ (by repeat (first | exact hn | apply le_nxt)) (by simp)
    · rcases Bool.eq_false_or_eq_true m.dead with hd | hd
      rotate_left
      · have hv : live' (m :: h.calls.drop (i + 1)) = 1 + live' (h.calls.drop (i + 1)) := by simp [live', hd]; omega
        have hz := hi (nxt AP mt 57 [aProg p, aCall m, vi h.calls.length] n) (lv + 1) (le_nxt hn) (by omega)
        rw [show lv + 1 + live' (h.calls.drop (i + 1)) = lv + live' (m :: h.calls.drop (i + 1)) from by omega] at hz
        have q' := q
        simp only [aCall, hd] at q'
        simp [u_25_0, b_25_0, hc, hix, hm, hwr, hwl, q', hP, hd]
        simp only [aCall, hd] at hz
        simpa using hz
      · have hv : live' (m :: h.calls.drop (i + 1)) = live' (h.calls.drop (i + 1)) := by simp [live', hd]
        have hz := hi (nxt AP mt 57 [aProg p, aCall m, vi h.calls.length] n) lv (le_nxt hn) (by omega)
        rw [← hv] at hz
        have q' := q
        simp only [aCall, hd] at q'
        simp [u_25_0, b_25_0, hc, hix, hm, hwr, hwl, q', hP, hd]
        simp only [aCall, hd] at hz
        simpa using hz
end Go.Ai
set_option linter.unusedSimpArgs false
set_option linter.unusedVariables false
namespace Go.Ai
variable {mt : Nat → Nat → Option Nat}
attribute [local simp] cnd_ite gS_ite
def aliveAt (h : GHeap) (x : Int) : Bool := match h.calls[x.toNat]? with | some c => !c.dead | none => false
def tailOk (h : GHeap) (lv : Int) : Bool := (decide (h.now < 0) || aliveAt h h.now) && (decide (((chain h).length : Int) = lv) && waitOk h)
def heapOkS (p : GProg) (h : GHeap) : Bool :=
  progOk p && (inR h.now (-1) (h.calls.length - 1) && (inR h.born 1 30 && (decide ((h.calls.length : Int) ≤ h.born) && (inR h.code 0 3 && (h.said.all (saidOk p) && (decide ((h.code = 1) ↔ (h.now < 0)) &&
    (h.calls.all (fun c => formOk p c h.calls.length) && tailOk h (live' h.calls))))))))
theorem r_25 (p : GProg) (h : GHeap) (hp : ShP p) (hh : ShH h) : Q mt 25 [aProg p, aHeap h] (.bool (heapOkS p h)) := by
  have q := fun a b c => r_55 (mt := mt) a b c
  have qp := r_54 (mt := mt) p hp
  have hpl := hp.l
  have hhl := hh.l
  have hhs := hh.s
  have qs := r_56 (mt := mt) p h.said hp.l (by omega)
  have qc := r_40 (mt := mt) h hh.l
  have qw := r_58 (mt := mt) h hh.l
  unfold Q at q qp qs qc qw
  have hw1 : IntKind.i64.wrap ((h.calls.length : Int) - 1) = h.calls.length - 1 := wrap_id (by omega) (by omega)
  refine Q.of rfl (fun k => ?_)
  rw [run_evS AP_25 _ _ rfl]
  unfold heapOkS
  cases h1 : progOk p
  · simp [c_25, qp, hw1, h1]
    exact Gv.bool (by repeat (first | exact Nat.le_refl _ | apply le_nxt)) rfl
  cases h2 : inR h.now (-1) (h.calls.length - 1)
  · simp [c_25, qp, q, hw1, h1, h2]
    exact Gv.bool (by repeat (first | exact Nat.le_refl _ | apply le_nxt)) rfl
  cases h3 : inR h.born 1 30
  · simp [c_25, qp, q, hw1, h1, h2, h3]
    exact Gv.bool (by repeat (first | exact Nat.le_refl _ | apply le_nxt)) rfl
  by_cases h4 : (h.calls.length : Int) ≤ h.born
  rotate_left
  · have h4' : h.born < (h.calls.length : Int) := by omega
    simp [c_25, qp, q, hw1, h1, h2, h3, h4, h4']
    exact Gv.bool (by repeat (first | exact Nat.le_refl _ | apply le_nxt)) rfl
  have h4' : ¬ h.born < (h.calls.length : Int) := by omega
  cases h5 : inR h.code 0 3
  · simp [c_25, qp, q, hw1, h1, h2, h3, h4, h4', h5]
    exact Gv.bool (by repeat (first | exact Nat.le_refl _ | apply le_nxt)) rfl
  cases h6 : h.said.all (saidOk p)
  · simp [c_25, qp, q, qs, hw1, h1, h2, h3, h4, h4', h5, h6]
    exact Gv.bool (by repeat (first | exact Nat.le_refl _ | apply le_nxt)) rfl
  by_cases h7 : (h.code = 1) ↔ (h.now < 0)
  rotate_left
  · by_cases h8 : h.code = 1 <;> by_cases h9 : h.now < 0 <;> simp only [h8, h9, iff_true, true_iff, iff_self, not_true, not_false_iff, iff_false, false_iff] at h7 <;> try (exact absurd trivial h7)
    all_goals
      simp [c_25, qp, q, qs, hw1, h1, h2, h3, h4, h4', h5, h6, h8, h9]
      exact Gv.bool (by repeat (first | exact Nat.le_refl _ | apply le_nxt)) rfl
  have h7' : (decide (h.code = 1) == decide (h.now < 0)) = true := by simpa using h7
  have key : Gv k (if h.calls.all (fun c => formOk p c h.calls.length) = true then .bool (tailOk h (0 + live' h.calls)) else .bool false) (evS AP mt c_25.body (argFr 0 [aProg p, aHeap h]) ⟨k, noObj⟩ [.fin c_25.res]) := by
    generalize hB : (if h.calls.all (fun c => formOk p c h.calls.length) = true then AVal.bool (tailOk h (0 + live' h.calls)) else AVal.bool false) = B
    simp [c_25, qp, q, qs, hw1, h1, h2, h3, h4, h4', h5, h6, h7, h7']
    rw [← hB]
    refine al_25 (mt := mt) p h hp hh k _ (.bool false) (fun lv => .bool (tailOk h lv)) (fun fr m hm g4 => ?_) (fun lv fr m hm g2 g3 g6 => ?_) h.calls.length 0 _ 0 (by omega) (by repeat (first | exact Nat.le_refl _ | apply le_nxt)) (by omega)
    · simp [g4]
      exact Gv.bool hm rfl
    · have h2' := inR_iff.1 h2
      unfold tailOk
      by_cases e1 : h.now < 0
      · by_cases e2 : ((chain h).length : Int) = lv
        · simp [g2, g3, g6, e1, e2, qc, qw]
          exact Gv.bool (by repeat (first | exact hm | apply le_nxt)) rfl
        · simp [g2, g3, g6, e1, e2, qc, qw]
          exact Gv.bool (by repeat (first | exact hm | apply le_nxt)) rfl
      · obtain ⟨c, hcc⟩ : ∃ c, h.calls[h.now.toNat]? = some c := ⟨_, List.getElem?_eq_getElem (by omega)⟩
        have hix2 := fun g => idx_ok (g := g) (k := .i64) (w_Call h.calls) (show (0:Int) ≤ h.now by omega) (by simp; omega)
        cases e3 : c.dead
        · by_cases e2 : ((chain h).length : Int) = lv
          · simp [g2, g3, g6, e1, e2, e3, qc, qw, hcc, hix2, aliveAt]
            exact Gv.bool (by repeat (first | exact hm | apply le_nxt)) rfl
          · simp [g2, g3, g6, e1, e2, e3, qc, qw, hcc, hix2, aliveAt]
            exact Gv.bool (by repeat (first | exact hm | apply le_nxt)) rfl
        · simp [g2, g3, g6, e1, e3, qc, qw, hcc, hix2, aliveAt]
          exact Gv.bool (by repeat (first | exact hm | apply le_nxt)) rfl
  rw [Int.zero_add] at key
  cases h10 : h.calls.all (fun c => formOk p c h.calls.length)
  · simp only [h10, Bool.false_eq_true, if_false] at key
    simpa [h4, h7] using key
  · simp only [h10, if_true] at key
    simpa [h4, h7] using key
end Go.Ai
