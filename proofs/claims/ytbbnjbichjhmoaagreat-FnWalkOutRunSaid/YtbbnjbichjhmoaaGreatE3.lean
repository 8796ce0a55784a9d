/- The laws FnWalkOver, FnWalkOverRun and FnWalkOutRun, as runs of the lowered program. -/
import Derived.Test.YtbbnjbichjhmoaaGreatE2
import Derived.Test.YtbbnjbichjhmoaaGreatD7
set_option linter.unusedSimpArgs false
set_option linter.unusedVariables false
namespace Go.Ai
attribute [local simp] cnd_ite gS_ite callBy_whole
theorem runS_add (p : GProg) (a c : Nat) (h : GHeap) : runS p (a + c) h = runS p c (runS p a h) := by
  rw [run_while, run_while, run_while, whileS_add]
theorem whileS_some (p : GProg) (C : GHeap → Bool) : ∀ (f : Nat) (y : GHeap), ∃ j, j ≤ f ∧ whileS p C f y = runS p j y := by
  intro f
  induction f with
  | zero => intro y; exact ⟨0, Nat.le_refl _, rfl⟩
  | succ f ih =>
    intro y
    have e : whileS p C (f + 1) y = if y.code = 0 ∧ C y = true then whileS p C f (stepS p y) else y := rfl
    rw [e]
    by_cases hc : y.code = 0 ∧ C y = true
    · rw [if_pos hc]
      obtain ⟨j, h1, h2⟩ := ih (stepS p y)
      refine ⟨j + 1, by omega, ?_⟩
      rw [h2]
      show _ = if y.code = 0 then runS p j (stepS p y) else y
      rw [if_pos hc.1]
    · rw [if_neg hc]; exact ⟨0, Nat.zero_le _, rfl⟩
def bodyRun : AC := (.seq (.seq (.reg [xm 0 63 12, xm 1 64 5,
    ⟨2, some 65, none, .bin .leq (.t 63) (.t 64)⟩] [3, 5, 8, 10, 12, 65])
  (.cond (.t 65)
  .skip
  (.exit 0)))
  (.seq (.block 1
  (.seq (.seq (.reg [xL 0 68 5 10, xL 1 69 5 8,
    ⟨2, some 70, none, .call (.alone false true) 174 [.t 68, .t 69]⟩] [3, 5, 8, 10, 12, 70])
  (.cond (.t 70)
  (.seq (.reg [⟨0, some 2, none, .mv (.c (.bool true))⟩] [2])
  .ret)
  .skip))
  (.reg [xL 0 72 1 3, xL 1 73 5 10,
    ⟨2, some 74, none, .call (.alone false true) 183 [.t 72, .t 73]⟩, xm 3 71 74,
    ⟨4, some 75, none, .ext (.t 71) 0⟩,
    ⟨5, some 76, none, .ext (.t 71) 1⟩,
    ⟨6, none, none, .store 5 (.t 10) (.t 75)⟩] [3, 5, 8, 10, 12])))
  (.reg [xm 0 66 12,
    ⟨1, some 67, none, .bin .add (.t 66) (.c (.int .i64 1))⟩, xm 2 12 67] [3, 5, 8, 10, 12])))
theorem loop_run {l : AC} (hu : ∀ fr G S, evS AP MT l fr G S = evS AP MT bodyRun fr G S) {p : GProg} {h x : GHeap} {lh : List Int} (w : WF p h lh) (hP : ShP p) (hs : h.said.length ≤ 1000) (most : Int) (hm : most ≤ 401) (j : Nat) (hj : (j : Int) ≤ most) (hx : x = runS p j h) (k : Nat) (S : List KF)
    (hR : ∀ fr m, k ≤ m → fr 2 = .bool true → Gv k (.bool true) (unw AP MT .ret fr ⟨m, noObj⟩ S)) :
    ∀ (d n m : Nat), n + d = j → k ≤ m → Gv k (.bool true) (evS AP MT (.loop l) (upd (upd (upd (upd (upd fr0 12 (vi n)) 10 (.pbox [lCall (runS p n h).calls, vi (runS p n h).now, vi (runS p n h).born, lVal (runS p n h).said, vi (runS p n h).code])) 8 (.pbox [lCall x.calls, vi x.now, vi x.born, lVal x.said, vi x.code])) 5 (vi most)) 3 (.pbox [lMethod p])) ⟨m, noObj⟩ S) := by
  intro d
  induction d with
  | zero =>
    intro n m hn hm'
    have : n = j := by omega
    subst this
    rw [← hx]
    obtain ⟨lx, wx⟩ := run_wf n w
    have hsd := run_said n w
    rw [← hx] at wx hsd
    have q := lm_174 (mt := MT) x x (wx.sh (by omega))
    rw [sameB_self] at q
    unfold Q at q
    rw [S_loop, hu]
    simp [bodyRun, hj, q]
    exact hR _ _ (le_nxt hm') (by simp)
  | succ d ih =>
    intro n m hn hm'
    have hnm : (n : Int) ≤ most := by omega
    have hwr : IntKind.i64.wrap ((n : Int) + 1) = ((n + 1 : Nat) : Int) := by rw [wrap_id (by omega) (by omega)]; omega
    obtain ⟨ly, wy⟩ := run_wf n w
    have hsd := run_said n w
    have hY := wy.sh (by omega)
    have q := lm_174 (mt := MT) (runS p n h) x hY
    have q183 := q_183 p (runS p n h) hP hY
    have e : runR p (runS p n h) 1 = (runS p (n + 1) h, true) := by
      unfold runR
      rw [if_pos ⟨ok_of wy, by decide⟩, runS_add]
      rfl
    rw [e] at q183
    unfold Q at q q183
    rw [S_loop, hu]
    cases hb : sameB (runS p n h) x with
    | true =>
      rw [hb] at q
      simp [bodyRun, hnm, q]
      exact hR _ _ (le_nxt hm') (by simp)
    | false =>
      rw [hb] at q
      simp [-Int.natCast_add, bodyRun, hnm, q, q183, hwr]
      exact ih (n + 1) _ (by omega) (le_nxt (le_nxt hm'))
theorem law_168 (b : List Nat) (hb : b.length ≤ 9223372036854775807 ∧ ∀ x ∈ b, x < 256) (k : Nat) : Gv k (.bool true) (run AP MT 168 [lB b] ⟨k, noObj⟩) := by
  rw [run_evS AP_168 _ _ rfl]
  by_cases hlen : (1048576 : Int) < b.length
  · simp [c_168, hlen]
    exact Gv.bool (Nat.le_refl _) rfl
  obtain ⟨p, h, most, hp, hs, m0, m1, hd⟩ := (draw_171 (mt := MT) b hb.1 hb.2 k).toQ
  have qd := q_at (AP' := AP) (mt := MT) (f := 171) (as := [lB b]) rfl hd noObj
  obtain ⟨_, _, _, _, _, _, hP⟩ := prog_cons hp
  have hH := hs.sh
  have hss := hs.s
  have hR : ShH (outR p h most).1 := outR_sh p h most (by omega)
  have q172 := s_172 (mt := MT) p h most hP hH
  have q173 := q_173 p h most hP hH
  have q174 := lm_174 (mt := MT) (outR p h most).1 (outR p h most).1 hR
  rw [sameB_self] at q174
  unfold Q at q172 q173 q174
  by_cases hok : heapOkS p h = true ∧ inR most 0 400 = true
  rotate_left
  · have e : outR p h most = (zeroH, false) := by unfold outR; rw [if_neg hok]
    rw [e] at q172 q173 q174
    simp [c_168, hlen, qd, q172, q173, q174]
    exact Gv.bool (by repeat (first | exact Nat.le_refl _ | apply le_nxt)) rfl
  have w := wf_of hok.1
  have hm := inR_iff.1 hok.2
  have e : outR p h most = (whileS p (fun x => decide (deepS h - 1 < deepS x)) most.toNat h, true) := by unfold outR; rw [if_pos hok]
  obtain ⟨j, hj, hx⟩ : ∃ j : Nat, (j : Int) ≤ most ∧ whileS p (fun x => decide (deepS h - 1 < deepS x)) most.toNat h = runS p j h := by
    obtain ⟨j, h1, h2⟩ := whileS_some p (fun x => decide (deepS h - 1 < deepS x)) most.toNat h
    exact ⟨j, by omega, h2⟩
  rw [e] at q172 q173 q174 hR
  have q184 := q_184 p h 0 hP hH
  have e0 : runR p h 0 = (h, true) := by unfold runR; rw [if_pos ⟨hok.1, by decide⟩]; rfl
  rw [e0] at q184
  unfold Q at q184
  generalize hX : whileS p (fun x => decide (deepS h - 1 < deepS x)) most.toNat h = X at *
  simp [c_168, hlen, qd, q172, q173, q174, q184]
  exact loop_run (l := l_168_0) (fun _ _ _ => rfl) w hP (by omega) most (by omega) j hj hx k _ (fun fr m hm h2 => by
    simp [h2]
    exact Gv.bool hm rfl) j 0 _ (by omega) (by repeat (first | exact Nat.le_refl _ | apply le_nxt))
end Go.Ai
