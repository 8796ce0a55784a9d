/- The laws' conversions give what they are given. Written by a program of this claim (gen_to.py). -/
import Derived.Test.YtffliemhdjcflaaAiL1
set_option linter.unusedSimpArgs false
set_option linter.unusedVariables false
namespace Go.Ai
variable {mt : Nat → Nat → Option Nat}
attribute [local simp] cnd_ite gS_ite
theorem omap_id {α : Type} {f : α → Option α} : ∀ {l : List α}, (∀ x ∈ l, f x = some x) → omap f l = some l := by
  intro l
  induction l with
  | nil => intro _; rfl
  | cons x xs ih =>
    intro h
    simp only [omap, h x (List.mem_cons_self ..), ih (fun y hy => h y (List.mem_cons_of_mem _ hy)), Option.bind_some]
theorem frz_sl {d id n : Nat} {g : Heap'} {es es' : Obj'} (h : g id = some es) (hn : es.length = n) (hf : omap (omap (frz d g)) es = some es') : frz (d + 1) g (.slice id 0 n) = some (.list es') := by
  show ((g id).bind fun es0 => if 0 + n ≤ es0.length then (omap (omap (frz d g)) ((es0.drop 0).take n)).map AVal.list else none) = _
  rw [h]
  subst hn
  simp [hf]
theorem t_107 (m : GOp) : Q mt 107 [aOp m] (aOp m) := by
  refine Q.of rfl (fun k => ?_)
  rw [run_evS AP_107 _ _ rfl]
  simp [c_107]
  exact Gv.some (Nat.le_refl _) (by simp [frz, omap])
theorem t_64 (m : GVal) : Q mt 64 [aVal m] (aVal m) := by
  refine Q.of rfl (fun k => ?_)
  rw [run_evS AP_64 _ _ rfl]
  simp [c_64]
  exact Gv.some (Nat.le_refl _) (by simp [frz, omap])
theorem tl_87 (ms : List GOp) (hl : ms.length ≤ 1048576)  (k id : Nat) (S : List KF)
    (hE : ∀ fr m, k ≤ m → fr 3 = .slice id 0 ms.length → Gv k (lOp ms) (unw AP mt (.exit 0) fr ⟨m, updO noObj id (some (ms.map eOp))⟩ S)) :
    ∀ (j i n : Nat) (es : Obj'), i + j = ms.length → k ≤ n → es.length = ms.length → (∀ e ∈ es, e.length = 2) → (∀ t, t < i → es[t]? = (ms[t]?).map eOp) →
      Gv k (lOp ms) (evS AP mt (.loop l_87_0) (upd (upd (upd fr0 4 (vi i)) 3 (.slice id 0 ms.length)) 0 (lOp ms)) ⟨n, updO noObj id (some es)⟩ S) := by
  intro j
  induction j with
  | zero =>
    intro i n es hij hn hel hw hes
    rw [S_loop]
    have hc : ¬ ((i : Int) < ms.length) := by omega
    have he : es = ms.map eOp := by
      apply List.ext_getElem?
      intro t
      by_cases ht : t < i
      · rw [hes t ht, List.getElem?_map]
      · rw [List.getElem?_eq_none (by omega), List.getElem?_eq_none (by simp; omega)]
    subst he
    simp [u_87_0, b_87_0, hc]
    exact hE _ _ hn (by simp)
  | succ j ih =>
    intro i n es hij hn hel hw hes
    have hlt : i < ms.length := by omega
    obtain ⟨m, hm⟩ : ∃ m, ms[i]? = some m := ⟨_, List.getElem?_eq_getElem hlt⟩
    obtain ⟨e0, he0⟩ : ∃ m, es[i]? = some m := ⟨_, List.getElem?_eq_getElem (by omega)⟩
    have hz0 : e0.length = 2 := hw e0 (List.mem_of_getElem? he0)
    have hc : (i : Int) < ms.length := by omega
    have hwr : IntKind.i64.wrap ((i : Int) + 1) = (i : Int) + 1 := wrap_id (by omega) (by omega)
    have hix := fun g => idx_ok (g := g) (k := .i64) (w_Op ms) (show (0:Int) ≤ i by omega) (by simpa using hc)
    have hix2 : idxV 2 (.slice id 0 ms.length) (.int .i64 (i : Int)) (updO noObj id (some es)) = some (.ptr id i 0) := by
      rw [idx_slice (es := es) (e := e0) (by omega) hc (by simp [updO]) (by simpa using he0) hz0]
      simp
    have hq := t_107 (mt := mt) m 
    unfold Q at hq
    have hsp : splice e0 0 (eOp m) = eOp m := by
      obtain ⟨x0, x1, rfl⟩ : ∃ x0 x1, e0 = [x0, x1] := by
        match e0, hz0 with
        | [x0, x1], _ => exact ⟨x0, x1, rfl⟩
      rfl
    have hst : stH 2 i 0 (eOp m) (some es) = some (es.set i (eOp m)) := by
      rw [stH_ok (n := 2) he0 ⟨by rfl, by omega⟩, hsp]
    have hob : (updO noObj id (some es)) id = some es := by simp [updO]
    have hob2 : updO (updO noObj id (some es)) id (some (es.set i (eOp m))) = updO noObj id (some (es.set i (eOp m))) := by funext t; simp only [updO]; split <;> rfl
    rw [S_loop]
    have hi := ih (i + 1) (nxt AP mt 107 [aOp m] n) (es.set i (eOp m)) (by omega) (le_nxt hn) (by simpa using hel) (fun e he => by
      rcases List.mem_or_eq_of_mem_set he with he | rfl
      · exact hw e he
      · rfl) (fun t ht => by
      by_cases hti : t = i
      · subst hti; rw [List.getElem?_set_self (by omega), hm]; rfl
      · rw [List.getElem?_set_ne (Ne.symm hti)]; exact hes t (by omega))
    simp only [eOp] at hst hob2 hi
    simp [u_87_0, b_87_0, hc, hix, hix2, hm, hq, hwr, hob, hst, hob2]
    simpa using hi
theorem t_87 (ms : List GOp) (hl : ms.length ≤ 1048576)  : Q mt 87 [lOp ms] (lOp ms) := by
  refine Q.of rfl (fun k => ?_)
  rw [run_evS AP_87 _ _ rfl]
  by_cases h0 : ms = []
  · subst h0
    simp [c_87, mksV_0, S_loop, u_87_0, b_87_0]
    exact Gv.some (Nat.le_refl _) (by simp [frz])
  · have hpos : 0 < ms.length := List.length_pos_iff.2 h0
    have hm := mksV_ok (z := [.int .i64 0, .int .i64 0]) (b := 16) (G := ⟨k, noObj⟩) (m := (ms.length : Int)) (by omega) (by unfold maxA; omega)
    have hfz : ∀ d g, omap (omap (frz (d + 1) g)) (ms.map eOp) = some (ms.map eOp) := fun d g => omap_id (fun x hx => by
      obtain ⟨m, _, rfl⟩ := List.mem_map.1 hx
      simp [omap, frz])
    simp [c_87, hm]
    have hl0 := tl_87 (mt := mt) ms hl  k k
    refine hl0 _ (fun fr m hm h3 => ?_) ms.length 0 (k + 1) _ (by omega) (by omega) (by simp) (fun e he => by rw [List.eq_of_mem_replicate he]; rfl) (fun t ht => by omega)
    simp [h3]
    refine Gv.some hm ?_
    exact frz_sl (es := ms.map eOp) (by simp [updO]) (by simp) (hfz 6 _)
theorem tl_34 (ms : List GVal) (hl : ms.length ≤ 1048576)  (k id : Nat) (S : List KF)
    (hE : ∀ fr m, k ≤ m → fr 3 = .slice id 0 ms.length → Gv k (lVal ms) (unw AP mt (.exit 0) fr ⟨m, updO noObj id (some (ms.map eVal))⟩ S)) :
    ∀ (j i n : Nat) (es : Obj'), i + j = ms.length → k ≤ n → es.length = ms.length → (∀ e ∈ es, e.length = 2) → (∀ t, t < i → es[t]? = (ms[t]?).map eVal) →
      Gv k (lVal ms) (evS AP mt (.loop l_34_0) (upd (upd (upd fr0 4 (vi i)) 3 (.slice id 0 ms.length)) 0 (lVal ms)) ⟨n, updO noObj id (some es)⟩ S) := by
  intro j
  induction j with
  | zero =>
    intro i n es hij hn hel hw hes
    rw [S_loop]
    have hc : ¬ ((i : Int) < ms.length) := by omega
    have he : es = ms.map eVal := by
      apply List.ext_getElem?
      intro t
      by_cases ht : t < i
      · rw [hes t ht, List.getElem?_map]
      · rw [List.getElem?_eq_none (by omega), List.getElem?_eq_none (by simp; omega)]
    subst he
    simp [u_34_0, b_34_0, hc]
    exact hE _ _ hn (by simp)
  | succ j ih =>
    intro i n es hij hn hel hw hes
    have hlt : i < ms.length := by omega
    obtain ⟨m, hm⟩ : ∃ m, ms[i]? = some m := ⟨_, List.getElem?_eq_getElem hlt⟩
    obtain ⟨e0, he0⟩ : ∃ m, es[i]? = some m := ⟨_, List.getElem?_eq_getElem (by omega)⟩
    have hz0 : e0.length = 2 := hw e0 (List.mem_of_getElem? he0)
    have hc : (i : Int) < ms.length := by omega
    have hwr : IntKind.i64.wrap ((i : Int) + 1) = (i : Int) + 1 := wrap_id (by omega) (by omega)
    have hix := fun g => idx_ok (g := g) (k := .i64) (w_Val ms) (show (0:Int) ≤ i by omega) (by simpa using hc)
    have hix2 : idxV 2 (.slice id 0 ms.length) (.int .i64 (i : Int)) (updO noObj id (some es)) = some (.ptr id i 0) := by
      rw [idx_slice (es := es) (e := e0) (by omega) hc (by simp [updO]) (by simpa using he0) hz0]
      simp
    have hq := t_64 (mt := mt) m 
    unfold Q at hq
    have hsp : splice e0 0 (eVal m) = eVal m := by
      obtain ⟨x0, x1, rfl⟩ : ∃ x0 x1, e0 = [x0, x1] := by
        match e0, hz0 with
        | [x0, x1], _ => exact ⟨x0, x1, rfl⟩
      rfl
    have hst : stH 2 i 0 (eVal m) (some es) = some (es.set i (eVal m)) := by
      rw [stH_ok (n := 2) he0 ⟨by rfl, by omega⟩, hsp]
    have hob : (updO noObj id (some es)) id = some es := by simp [updO]
    have hob2 : updO (updO noObj id (some es)) id (some (es.set i (eVal m))) = updO noObj id (some (es.set i (eVal m))) := by funext t; simp only [updO]; split <;> rfl
    rw [S_loop]
    have hi := ih (i + 1) (nxt AP mt 64 [aVal m] n) (es.set i (eVal m)) (by omega) (le_nxt hn) (by simpa using hel) (fun e he => by
      rcases List.mem_or_eq_of_mem_set he with he | rfl
      · exact hw e he
      · rfl) (fun t ht => by
      by_cases hti : t = i
      · subst hti; rw [List.getElem?_set_self (by omega), hm]; rfl
      · rw [List.getElem?_set_ne (Ne.symm hti)]; exact hes t (by omega))
    simp only [eVal] at hst hob2 hi
    simp [u_34_0, b_34_0, hc, hix, hix2, hm, hq, hwr, hob, hst, hob2]
    simpa using hi
theorem t_34 (ms : List GVal) (hl : ms.length ≤ 1048576)  : Q mt 34 [lVal ms] (lVal ms) := by
  refine Q.of rfl (fun k => ?_)
  rw [run_evS AP_34 _ _ rfl]
  by_cases h0 : ms = []
  · subst h0
    simp [c_34, mksV_0, S_loop, u_34_0, b_34_0]
    exact Gv.some (Nat.le_refl _) (by simp [frz])
  · have hpos : 0 < ms.length := List.length_pos_iff.2 h0
    have hm := mksV_ok (z := [.int .i64 0, .int .i64 0]) (b := 16) (G := ⟨k, noObj⟩) (m := (ms.length : Int)) (by omega) (by unfold maxA; omega)
    have hfz : ∀ d g, omap (omap (frz (d + 1) g)) (ms.map eVal) = some (ms.map eVal) := fun d g => omap_id (fun x hx => by
      obtain ⟨m, _, rfl⟩ := List.mem_map.1 hx
      simp [omap, frz])
    simp [c_34, hm]
    have hl0 := tl_34 (mt := mt) ms hl  k k
    refine hl0 _ (fun fr m hm h3 => ?_) ms.length 0 (k + 1) _ (by omega) (by omega) (by simp) (fun e he => by rw [List.eq_of_mem_replicate he]; rfl) (fun t ht => by omega)
    simp [h3]
    refine Gv.some hm ?_
    exact frz_sl (es := ms.map eVal) (by simp [updO]) (by simp) (hfz 6 _)
theorem t_62 (m : GMethod) (h : m.ops.length ≤ 1048576) : Q mt 62 [aMethod m] (aMethod m) := by
  refine Q.of rfl (fun k => ?_)
  have q0 := t_87 (mt := mt) m.ops h
  rw [run_evS AP_62 _ _ rfl]
  unfold Q at q0
  simp [c_62, q0]
  exact Gv.some (le_nxt (Nat.le_refl _)) (by simp [frz, omap])
theorem t_63 (m : GCall) (h : m.temps.length ≤ 1048576 ∧ m.stack.length ≤ 1048576) : Q mt 63 [aCall m] (aCall m) := by
  refine Q.of rfl (fun k => ?_)
  have q0 := t_34 (mt := mt) m.temps h.1
  have q1 := t_34 (mt := mt) m.stack h.2
  rw [run_evS AP_63 _ _ rfl]
  unfold Q at q0 q1
  simp [c_63, q0, q1]
  exact Gv.some (le_nxt (le_nxt (Nat.le_refl _))) (by simp [frz, omap])
theorem tl_32 (ms : List GMethod) (hl : ms.length ≤ 1048576) (hs : ∀ m ∈ ms, m.ops.length ≤ 1048576) (k id : Nat) (S : List KF)
    (hE : ∀ fr m, k ≤ m → fr 3 = .slice id 0 ms.length → Gv k (lMethod ms) (unw AP mt (.exit 0) fr ⟨m, updO noObj id (some (ms.map eMethod))⟩ S)) :
    ∀ (j i n : Nat) (es : Obj'), i + j = ms.length → k ≤ n → es.length = ms.length → (∀ e ∈ es, e.length = 3) → (∀ t, t < i → es[t]? = (ms[t]?).map eMethod) →
      Gv k (lMethod ms) (evS AP mt (.loop l_32_0) (upd (upd (upd fr0 4 (vi i)) 3 (.slice id 0 ms.length)) 0 (lMethod ms)) ⟨n, updO noObj id (some es)⟩ S) := by
  intro j
  induction j with
  | zero =>
    intro i n es hij hn hel hw hes
    rw [S_loop]
    have hc : ¬ ((i : Int) < ms.length) := by omega
    have he : es = ms.map eMethod := by
      apply List.ext_getElem?
      intro t
      by_cases ht : t < i
      · rw [hes t ht, List.getElem?_map]
      · rw [List.getElem?_eq_none (by omega), List.getElem?_eq_none (by simp; omega)]
    subst he
    simp [u_32_0, b_32_0, hc]
    exact hE _ _ hn (by simp)
  | succ j ih =>
    intro i n es hij hn hel hw hes
    have hlt : i < ms.length := by omega
    obtain ⟨m, hm⟩ : ∃ m, ms[i]? = some m := ⟨_, List.getElem?_eq_getElem hlt⟩
    obtain ⟨e0, he0⟩ : ∃ m, es[i]? = some m := ⟨_, List.getElem?_eq_getElem (by omega)⟩
    have hz0 : e0.length = 3 := hw e0 (List.mem_of_getElem? he0)
    have hc : (i : Int) < ms.length := by omega
    have hwr : IntKind.i64.wrap ((i : Int) + 1) = (i : Int) + 1 := wrap_id (by omega) (by omega)
    have hix := fun g => idx_ok (g := g) (k := .i64) (w_Method ms) (show (0:Int) ≤ i by omega) (by simpa using hc)
    have hix2 : idxV 3 (.slice id 0 ms.length) (.int .i64 (i : Int)) (updO noObj id (some es)) = some (.ptr id i 0) := by
      rw [idx_slice (es := es) (e := e0) (by omega) hc (by simp [updO]) (by simpa using he0) hz0]
      simp
    have hq := t_62 (mt := mt) m (hs m (List.mem_of_getElem? hm))
    unfold Q at hq
    have hsp : splice e0 0 (eMethod m) = eMethod m := by
      obtain ⟨x0, x1, x2, rfl⟩ : ∃ x0 x1 x2, e0 = [x0, x1, x2] := by
        match e0, hz0 with
        | [x0, x1, x2], _ => exact ⟨x0, x1, x2, rfl⟩
      rfl
    have hst : stH 3 i 0 (eMethod m) (some es) = some (es.set i (eMethod m)) := by
      rw [stH_ok (n := 3) he0 ⟨by rfl, by omega⟩, hsp]
    have hob : (updO noObj id (some es)) id = some es := by simp [updO]
    have hob2 : updO (updO noObj id (some es)) id (some (es.set i (eMethod m))) = updO noObj id (some (es.set i (eMethod m))) := by funext t; simp only [updO]; split <;> rfl
    rw [S_loop]
    have hi := ih (i + 1) (nxt AP mt 62 [aMethod m] n) (es.set i (eMethod m)) (by omega) (le_nxt hn) (by simpa using hel) (fun e he => by
      rcases List.mem_or_eq_of_mem_set he with he | rfl
      · exact hw e he
      · rfl) (fun t ht => by
      by_cases hti : t = i
      · subst hti; rw [List.getElem?_set_self (by omega), hm]; rfl
      · rw [List.getElem?_set_ne (Ne.symm hti)]; exact hes t (by omega))
    simp only [eMethod] at hst hob2 hi
    simp [u_32_0, b_32_0, hc, hix, hix2, hm, hq, hwr, hob, hst, hob2]
    simpa using hi
theorem t_32 (ms : List GMethod) (hl : ms.length ≤ 1048576) (hs : ∀ m ∈ ms, m.ops.length ≤ 1048576) : Q mt 32 [lMethod ms] (lMethod ms) := by
  refine Q.of rfl (fun k => ?_)
  rw [run_evS AP_32 _ _ rfl]
  by_cases h0 : ms = []
  · subst h0
    simp [c_32, mksV_0, S_loop, u_32_0, b_32_0]
    exact Gv.some (Nat.le_refl _) (by simp [frz])
  · have hpos : 0 < ms.length := List.length_pos_iff.2 h0
    have hm := mksV_ok (z := [.int .i64 0, .int .i64 0, .nils]) (b := 40) (G := ⟨k, noObj⟩) (m := (ms.length : Int)) (by omega) (by unfold maxA; omega)
    have hfz : ∀ d g, omap (omap (frz (d + 1) g)) (ms.map eMethod) = some (ms.map eMethod) := fun d g => omap_id (fun x hx => by
      obtain ⟨m, _, rfl⟩ := List.mem_map.1 hx
      simp [omap, frz])
    simp [c_32, hm]
    have hl0 := tl_32 (mt := mt) ms hl hs k k
    refine hl0 _ (fun fr m hm h3 => ?_) ms.length 0 (k + 1) _ (by omega) (by omega) (by simp) (fun e he => by rw [List.eq_of_mem_replicate he]; rfl) (fun t ht => by omega)
    simp [h3]
    refine Gv.some hm ?_
    exact frz_sl (es := ms.map eMethod) (by simp [updO]) (by simp) (hfz 6 _)
theorem tl_33 (ms : List GCall) (hl : ms.length ≤ 1048576) (hs : ∀ m ∈ ms, m.temps.length ≤ 1048576 ∧ m.stack.length ≤ 1048576) (k id : Nat) (S : List KF)
    (hE : ∀ fr m, k ≤ m → fr 3 = .slice id 0 ms.length → Gv k (lCall ms) (unw AP mt (.exit 0) fr ⟨m, updO noObj id (some (ms.map eCall))⟩ S)) :
    ∀ (j i n : Nat) (es : Obj'), i + j = ms.length → k ≤ n → es.length = ms.length → (∀ e ∈ es, e.length = 6) → (∀ t, t < i → es[t]? = (ms[t]?).map eCall) →
      Gv k (lCall ms) (evS AP mt (.loop l_33_0) (upd (upd (upd fr0 4 (vi i)) 3 (.slice id 0 ms.length)) 0 (lCall ms)) ⟨n, updO noObj id (some es)⟩ S) := by
  intro j
  induction j with
  | zero =>
    intro i n es hij hn hel hw hes
    rw [S_loop]
    have hc : ¬ ((i : Int) < ms.length) := by omega
    have he : es = ms.map eCall := by
      apply List.ext_getElem?
      intro t
      by_cases ht : t < i
      · rw [hes t ht, List.getElem?_map]
      · rw [List.getElem?_eq_none (by omega), List.getElem?_eq_none (by simp; omega)]
    subst he
    simp [u_33_0, b_33_0, hc]
    exact hE _ _ hn (by simp)
  | succ j ih =>
    intro i n es hij hn hel hw hes
    have hlt : i < ms.length := by omega
    obtain ⟨m, hm⟩ : ∃ m, ms[i]? = some m := ⟨_, List.getElem?_eq_getElem hlt⟩
    obtain ⟨e0, he0⟩ : ∃ m, es[i]? = some m := ⟨_, List.getElem?_eq_getElem (by omega)⟩
    have hz0 : e0.length = 6 := hw e0 (List.mem_of_getElem? he0)
    have hc : (i : Int) < ms.length := by omega
    have hwr : IntKind.i64.wrap ((i : Int) + 1) = (i : Int) + 1 := wrap_id (by omega) (by omega)
    have hix := fun g => idx_ok (g := g) (k := .i64) (w_Call ms) (show (0:Int) ≤ i by omega) (by simpa using hc)
    have hix2 : idxV 6 (.slice id 0 ms.length) (.int .i64 (i : Int)) (updO noObj id (some es)) = some (.ptr id i 0) := by
      rw [idx_slice (es := es) (e := e0) (by omega) hc (by simp [updO]) (by simpa using he0) hz0]
      simp
    have hq := t_63 (mt := mt) m (hs m (List.mem_of_getElem? hm))
    unfold Q at hq
    have hsp : splice e0 0 (eCall m) = eCall m := by
      obtain ⟨x0, x1, x2, x3, x4, x5, rfl⟩ : ∃ x0 x1 x2 x3 x4 x5, e0 = [x0, x1, x2, x3, x4, x5] := by
        match e0, hz0 with
        | [x0, x1, x2, x3, x4, x5], _ => exact ⟨x0, x1, x2, x3, x4, x5, rfl⟩
      rfl
    have hst : stH 6 i 0 (eCall m) (some es) = some (es.set i (eCall m)) := by
      rw [stH_ok (n := 6) he0 ⟨by rfl, by omega⟩, hsp]
    have hob : (updO noObj id (some es)) id = some es := by simp [updO]
    have hob2 : updO (updO noObj id (some es)) id (some (es.set i (eCall m))) = updO noObj id (some (es.set i (eCall m))) := by funext t; simp only [updO]; split <;> rfl
    rw [S_loop]
    have hi := ih (i + 1) (nxt AP mt 63 [aCall m] n) (es.set i (eCall m)) (by omega) (le_nxt hn) (by simpa using hel) (fun e he => by
      rcases List.mem_or_eq_of_mem_set he with he | rfl
      · exact hw e he
      · rfl) (fun t ht => by
      by_cases hti : t = i
      · subst hti; rw [List.getElem?_set_self (by omega), hm]; rfl
      · rw [List.getElem?_set_ne (Ne.symm hti)]; exact hes t (by omega))
    simp only [eCall] at hst hob2 hi
    simp [u_33_0, b_33_0, hc, hix, hix2, hm, hq, hwr, hob, hst, hob2]
    simpa using hi
theorem t_33 (ms : List GCall) (hl : ms.length ≤ 1048576) (hs : ∀ m ∈ ms, m.temps.length ≤ 1048576 ∧ m.stack.length ≤ 1048576) : Q mt 33 [lCall ms] (lCall ms) := by
  refine Q.of rfl (fun k => ?_)
  rw [run_evS AP_33 _ _ rfl]
  by_cases h0 : ms = []
  · subst h0
    simp [c_33, mksV_0, S_loop, u_33_0, b_33_0]
    exact Gv.some (Nat.le_refl _) (by simp [frz])
  · have hpos : 0 < ms.length := List.length_pos_iff.2 h0
    have hm := mksV_ok (z := [.int .i64 0, .int .i64 0, .nils, .nils, .int .i64 0, .bool false]) (b := 80) (G := ⟨k, noObj⟩) (m := (ms.length : Int)) (by omega) (by unfold maxA; omega)
    have hfz : ∀ d g, omap (omap (frz (d + 1) g)) (ms.map eCall) = some (ms.map eCall) := fun d g => omap_id (fun x hx => by
      obtain ⟨m, _, rfl⟩ := List.mem_map.1 hx
      simp [omap, frz])
    simp [c_33, hm]
    have hl0 := tl_33 (mt := mt) ms hl hs k k
    refine hl0 _ (fun fr m hm h3 => ?_) ms.length 0 (k + 1) _ (by omega) (by omega) (by simp) (fun e he => by rw [List.eq_of_mem_replicate he]; rfl) (fun t ht => by omega)
    simp [h3]
    refine Gv.some hm ?_
    exact frz_sl (es := ms.map eCall) (by simp [updO]) (by simp) (hfz 6 _)
theorem t_7 (p : GProg) (h : p.length ≤ 1048576) (hs : ∀ m ∈ p, m.ops.length ≤ 1048576) : Q mt 7 [aProg p] (aProg p) := by
  refine Q.of rfl (fun k => ?_)
  have q := t_32 (mt := mt) p h hs
  rw [run_evS AP_7 _ _ rfl]
  unfold Q at q
  simp [c_7, q]
  exact Gv.some (le_nxt (Nat.le_refl _)) (by simp [frz, omap])
theorem t_8 (m : GHeap) (h : m.calls.length ≤ 1048576) (hs : ∀ c ∈ m.calls, c.temps.length ≤ 1048576 ∧ c.stack.length ≤ 1048576) (h2 : m.said.length ≤ 1048576) : Q mt 8 [aHeap m] (aHeap m) := by
  refine Q.of rfl (fun k => ?_)
  have q0 := t_33 (mt := mt) m.calls h hs
  have q1 := t_34 (mt := mt) m.said h2
  rw [run_evS AP_8 _ _ rfl]
  unfold Q at q0 q1
  simp [c_8, q0, q1]
  exact Gv.some (le_nxt (le_nxt (Nat.le_refl _))) (by simp [frz, omap])
end Go.Ai
