/- The specification's chain of calls. -/
import Derived.Test.YtffliemhdjcflaaAiL6
set_option linter.unusedSimpArgs false
set_option linter.unusedVariables false
namespace Go.Ai
variable {mt : Nat → Nat → Option Nat}
attribute [local simp] cnd_ite gS_ite
abbrev i1 (n : Int) : List AVal := [vi n]
theorem lenV_list {es : Obj'} : lenV (.list es) = some (.int .i64 es.length) := rfl
/-- A list that grows, and its place in the heap. -/
def Rep (out : List Int) (v : AVal) (g : Heap') : Prop := (out = [] ∧ v = .nils ∧ g = noObj) ∨ (out ≠ [] ∧ ∃ id, v = .slice id 0 out.length ∧ g = updO noObj id (some (out.map i1)))
theorem Rep.app {out : List Int} {v : AVal} {g : Heap'} (h : Rep out v g) (x : Int) (n : Nat) (hl : out.length ≤ 1048576) : ∃ v' g', appV 1 8 v (.list [[vi x]]) ⟨n, g⟩ = some (v', ⟨n + 1, g'⟩) ∧ Rep (out ++ [x]) v' g' := by
  rcases h with ⟨rfl, rfl, rfl⟩ | ⟨hne, id, rfl, rfl⟩
  · refine ⟨.slice n 0 1, updO noObj n (some [[vi x]]), ?_, .inr ⟨by simp, n, by simp, by simp⟩⟩
    simp [appV, srcOf, maxA]
  · refine ⟨.slice n 0 (out.length + 1), updO noObj n (some (out.map i1 ++ [[vi x]])), ?_, .inr ⟨by simp, n, by simp, by simp⟩⟩
    have he : (updO noObj id (some (out.map i1))) id = some (out.map i1) := by simp [updO]
    have hu : updO (updO (updO noObj id (some (out.map i1))) id none) n (some (out.map i1 ++ [[vi x]])) = updO noObj n (some (out.map i1 ++ [[vi x]])) := by
      funext t
      simp only [updO]
      split
      · rfl
      · split
        · rfl
        · rfl
    have hm : out.map i1 ≠ [] := by simp [hne]
    have hc : ∀ e ∈ out.map i1, e.length = 1 := by simp
    have hb : (out.length + 1) * 8 ≤ 1099511627776 := by omega
    simp [appV, srcOf, he, hu, hne, maxA, hb]
def chainF (calls : List GCall) : Nat → Int → List Int → List Int
  | 0, at', out => if at' < 0 then out else []
  | f + 1, at', out => if at' < 0 then out else if calls.length ≤ at' then [] else match calls[at'.toNat]? with
    | some c => if c.dead then [] else chainF calls f c.sender (out ++ [at'])
    | none => []
def chain (h : GHeap) : List Int := chainF h.calls h.calls.length h.now []
theorem al_40 (h : GHeap) (hl : h.calls.length ≤ 1048576) (k : Nat) (S : List KF) (hR : ∀ fr m g, k ≤ m → fr 2 = .nils → Gv k (lInt []) (unw AP mt .ret fr ⟨m, g⟩ S))
    (hE : ∀ fr m g out, k ≤ m → Rep out (fr 3) g → Gv k (lInt out) (unw AP mt (.exit 0) fr ⟨m, g⟩ S)) :
    ∀ (f : Nat) (at' : Int) (out : List Int) (v : AVal) (g : Heap') (n : Nat), f + out.length = h.calls.length → k ≤ n → Rep out v g →
      Gv k (lInt (chainF h.calls f at' out)) (evS AP mt (.loop l_40_0) (upd (upd (upd fr0 4 (vi at')) 3 v) 1 (.pbox [lCall h.calls, vi h.now, vi h.born, lVal h.said, vi h.code])) ⟨n, g⟩ S) := by
  have hkv : ∀ {out v g}, Rep out v g → kv v = v ∧ gv v = some v ∧ (∀ d, pv d v = v) ∧ lenV v = some (vi out.length) := by
    intro out v g hr
    rcases hr with ⟨rfl, rfl, rfl⟩ | ⟨_, id, rfl, rfl⟩
    · exact ⟨rfl, rfl, fun _ => rfl, rfl⟩
    · exact ⟨rfl, rfl, fun _ => rfl, rfl⟩
  intro f
  induction f with
  | zero =>
    intro at' out v g n hf hn hr
    obtain ⟨k1, k2, k3, k4⟩ := hkv hr
    rw [S_loop]
    by_cases ha : at' < 0
    · have ha' : ¬ 0 ≤ at' := by omega
      simp [-lenV, lenV_list, u_40_0, b_40_0, ha, ha', chainF, k1, k2, k3, k4]
      exact hE _ _ _ _ hn (by simpa using hr)
    · have ha' : 0 ≤ at' := by omega
      have hc : (h.calls.length : Int) ≤ out.length := by omega
      simp [-lenV, lenV_list, u_40_0, b_40_0, ha, ha', chainF, k1, k2, k3, k4, hc]
      exact hR _ _ _ hn (by simp)
  | succ f ih =>
    intro at' out v g n hf hn hr
    obtain ⟨k1, k2, k3, k4⟩ := hkv hr
    rw [S_loop]
    by_cases ha : at' < 0
    · have ha' : ¬ 0 ≤ at' := by omega
      simp [-lenV, lenV_list, u_40_0, b_40_0, ha, ha', chainF, k1, k2, k3, k4]
      exact hE _ _ _ _ hn (by simpa using hr)
    have ha' : 0 ≤ at' := by omega
    have hc : ¬ ((h.calls.length : Int) ≤ out.length) := by omega
    by_cases hb : (h.calls.length : Int) ≤ at'
    · simp [-lenV, lenV_list, u_40_0, b_40_0, ha, ha', chainF, k1, k2, k3, k4, hc, hb]
      exact hR _ _ _ hn (by simp)
    obtain ⟨c, hcc⟩ : ∃ c, h.calls[at'.toNat]? = some c := ⟨_, List.getElem?_eq_getElem (by omega)⟩
    have hix := fun g => idx_ok (g := g) (k := .i64) (w_Call h.calls) (show (0:Int) ≤ at' by omega) (by simp; omega)
    cases hd : c.dead
    · obtain ⟨v', g', h1, h2⟩ := hr.app at' n (by omega)
      obtain ⟨j1, j2, j3, j4⟩ := hkv h2
      have hi := ih c.sender (out ++ [at']) v' g' (n + 1) (by simp; omega) (by omega) h2
      simp [-lenV, lenV_list, u_40_0, b_40_0, ha, ha', chainF, k1, k2, k3, k4, hc, hb, hix, hcc, hd, h1, j1, j2, j3, j4]
      exact hi
    · simp [-lenV, lenV_list, u_40_0, b_40_0, ha, ha', chainF, k1, k2, k3, k4, hc, hb, hix, hcc, hd]
      exact hR _ _ _ hn (by simp)
theorem frz_rep {out : List Int} {v : AVal} {g : Heap'} (h : Rep out v g) : frz 8 g v = some (lInt out) := by
  rcases h with ⟨rfl, rfl, rfl⟩ | ⟨_, id, rfl, rfl⟩
  · rfl
  · refine frz_sl (es := out.map i1) (by simp [updO]) (by simp) (omap_id (fun x hx => ?_))
    obtain ⟨m, _, rfl⟩ := List.mem_map.1 hx
    rfl
theorem r_40 (h : GHeap) (hl : h.calls.length ≤ 1048576) : Q mt 40 [aHeap h] (lInt (chain h)) := by
  refine Q.of rfl (fun k => ?_)
  rw [run_evS AP_40 _ _ rfl]
  simp [c_40]
  refine al_40 (mt := mt) h hl k _ (fun fr m g hm h2 => ?_) (fun fr m g out hm hr => ?_) h.calls.length h.now [] .nils noObj k (by simp) (Nat.le_refl _) (.inl ⟨rfl, rfl, rfl⟩)
  · simp [h2]; exact Gv.some hm rfl
  · have hz := frz_rep hr
    generalize hv : fr 3 = v at hr hz
    rcases hr with ⟨rfl, rfl, rfl⟩ | ⟨_, id, rfl, rfl⟩
    · simp [hv]; exact Gv.some hm hz
    · simp [hv]; exact Gv.some hm hz
end Go.Ai
