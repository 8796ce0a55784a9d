/- Calls: what a callee may rely on, what it leaves. -/
import Derived.Test.YtffliemhdjcflaaAiS12
set_option linter.unusedVariables false
set_option linter.unusedSimpArgs false
namespace Go.Ai
variable {M : SM}

/-- What a call leaves. -/
structure Ret (M : SM) (C C' : Cx) (G G' : AG) (w w' : World) : Prop where
  le : C.le C'
  gr : GR M C' G' w'
  un : Un w w' (live C G)
  lv : ∀ b, live C' G' b → live C G b ∨ w.heap.size ≤ b
  im : ∀ b arr, C'.im b = some arr → C.im b = some arr ∨ live C G b ∨ w.heap.size ≤ b
def VsR (M : SM) (C : Cx) (as : List AVal) (args : Array Value) : Prop := as.length = args.size ∧ ∀ (i : Nat) x y, as[i]? = some x → args[i]? = some y → VR M C x y
def Does (M : SM) (C : Cx) (G : AG) (w : World) (k : FuncId) (args : Array Value) (v : AVal) (G' : AG) : Prop :=
  Calls M.P k args w (fun e w' => match e with | .returned V => ∃ C', Ret M C C' G G' w w' ∧ VR M C' v V | _ => False)
def CallOK (M : SM) (call : CallF) : Prop := ∀ f k as G v G', M.fm f = some k → call f as G = some (v, G') → ∀ C w args, GR M C G w → VsR M C as args → Does M C G w k args v G'

theorem VsR.append {C : Cx} {as bs : List AVal} {X Y : Array Value} (h : VsR M C as X) (k : VsR M C bs Y) : VsR M C (as ++ bs) (X ++ Y) := by
  refine ⟨by simp [h.1, k.1], fun i x y hx hy => ?_⟩
  by_cases hi : i < as.length
  · rw [List.getElem?_append_left hi] at hx
    rw [Array.getElem?_append_left (by rw [← h.1]; exact hi)] at hy
    exact h.2 i x y hx hy
  · rw [List.getElem?_append_right (by omega)] at hx
    rw [Array.getElem?_append_right (by rw [← h.1]; omega), ← h.1] at hy
    exact k.2 _ x y hx hy

theorem noob {o : Option Obj'} {es : Obj'} (h : o = some es) (h0 : o = none := by rfl) : False := by rw [h0] at h; cases h
theorem GR.none {C : Cx} {G : AG} {w : World} (h : GR M C G w) : GR M C ⟨G.next, noObj⟩ w :=
  ⟨h.n, fun _ _ hh => (noob hh).elim, fun _ _ _ _ hh => (noob hh).elim, fun b arr hb => ⟨(h.im b arr hb).1, fun _ _ hh => (noob hh).elim⟩⟩
theorem live_none {C : Cx} {n b : Nat} (h : live C ⟨n, noObj⟩ b) : False := by obtain ⟨_, _, h1, _⟩ := h; cases h1
theorem frz_gr {C : Cx} {G : AG} {w : World} (h : GR M C G w) : GR M (frzC C G w) ⟨G.next, noObj⟩ w := by
  refine ⟨h.n, fun _ _ hh => (noob hh).elim, fun _ _ _ _ hh => (noob hh).elim, fun b arr hb => ⟨?_, fun _ _ hh => (noob hh).elim⟩⟩
  simp only [frzC] at hb
  split at hb
  · rename_i hl
    obtain ⟨id, es, hid, rfl⟩ := hl
    obtain ⟨_, cur, ty, hc, _⟩ := h.ob id es hid
    rw [hc] at hb
    injection hb with hb
    subst hb
    exact ⟨ty, _, hc⟩
  · exact (h.im b arr hb).1
theorem ovr_noObj (g : Heap') : ovr g noObj = g := by funext i; simp [ovr, noObj]

/-- A heap of its own, and what was there. -/
theorem ret_join {C C1 : Cx} {G : AG} {w w1 : World} {im2 : Nat → Option (Array Value)} {n1 : Nat} {H : Heap'} (hg : GR M C G w) (hn : C.n ≤ C1.n) (hio : ∀ id, id < C.n → C1.io id = C.io id)
    (hun : Un w w1 (fun _ => False)) (h1 : GR M ⟨C1.n, C1.io, im2⟩ ⟨n1, H⟩ w1) (hlv : ∀ id es, H id = some es → w.heap.size ≤ (C1.io id).blk)
    (him : ∀ b arr, im2 b = some arr → C.im b = some arr ∨ w.heap.size ≤ b) (hsub : ∀ b arr, C.im b = some arr → im2 b = some arr) : Ret M C ⟨C1.n, C1.io, im2⟩ G ⟨n1, ovr G.obj H⟩ w w1 := by
  have hle : C.le ⟨C1.n, C1.io, im2⟩ := ⟨hn, hio, hsub⟩
  have hcase : ∀ id es, ovr G.obj H id = some es → H id = some es ∨ G.obj id = some es := by
    intro id es hid
    simp only [ovr] at hid
    cases hH : H id with
    | some e => rw [hH] at hid; left; exact hid
    | none => rw [hH] at hid; right; exact hid
  have hold : ∀ id es, G.obj id = some es → C1.io id = C.io id ∧ (C.io id).blk < w.heap.size := fun id es hid =>
    ⟨hio id (by rw [hg.n]; exact (hg.ob id es hid).1), hg.lt ⟨id, es, hid, rfl⟩⟩
  refine ⟨hle, ⟨h1.n, fun id es hid => ?_, fun id id' es es' ha hb hne => ?_, fun b arr hb => ?_⟩, hun.mono (fun _ hf => hf.elim), fun b hb => ?_, fun b arr hb => ?_⟩
  · rcases hcase id es hid with h2 | h2
    · exact h1.ob id es h2
    · obtain ⟨h3, h4⟩ := hold id es h2
      obtain ⟨h5, cur, ty, h6, h7⟩ := hg.ob id es h2
      refine ⟨?_, cur, ty, ?_, ?_⟩
      · show id < n1
        have := h1.n
        have h8 : C1.n = n1 := this
        rw [← h8]
        rw [← hg.n] at h5
        omega
      · show w1.heap[(C1.io id).blk]? = _
        rw [h3, hun.blk _ h4 (fun hf => hf)]; exact h6
      · show ObR M _ (C1.io id) es cur
        rw [h3]; exact h7.mono hle
  · show (C1.io id).blk ≠ (C1.io id').blk
    rcases hcase id es ha with h2 | h2 <;> rcases hcase id' es' hb with h3 | h3
    · exact h1.inj id id' es es' h2 h3 hne
    · have := hlv id es h2
      obtain ⟨h4, h5⟩ := hold id' es' h3
      rw [h4]; omega
    · have := hlv id' es' h3
      obtain ⟨h4, h5⟩ := hold id es h2
      rw [h4]; omega
    · rw [(hold id es h2).1, (hold id' es' h3).1]; exact hg.inj id id' es es' h2 h3 hne
  · have hb' : im2 b = some arr := hb
    refine ⟨(h1.im b arr hb).1, fun id es hid => ?_⟩
    show (C1.io id).blk ≠ b
    rcases hcase id es hid with h2 | h2
    · exact (h1.im b arr hb).2 id es h2
    · obtain ⟨h3, h4⟩ := hold id es h2
      rw [h3]
      rcases him b arr hb' with h5 | h5
      · exact (hg.im b arr h5).2 id es h2
      · omega
  · obtain ⟨id, es, hid, e⟩ := hb
    have e' : (C1.io id).blk = b := e
    rcases hcase id es hid with h2 | h2
    · right; rw [← e']; exact hlv id es h2
    · left; exact ⟨id, es, h2, by rw [← (hold id es h2).1]; exact e'⟩
  · rcases him b arr hb with h2 | h2
    · exact .inl h2
    · exact .inr (.inr h2)

theorem callBy_ok {call : CallF} (hc : CallOK M call) {m : CM} {f : Nat} {k : FuncId} {as : List AVal} {G G' : AG} {v : AVal} (hk : M.fm f = some k) (h : callBy call m f as G = some (v, G')) {C : Cx} {w : World} {args : Array Value}
    (hg : GR M C G w) (ha : VsR M C as args) : Does M C G w k args v G' := by
  cases m with
  | whole => exact hc f k as G v G' hk h C w args hg ha
  | alone snap fz =>
    simp only [callBy, Option.bind_eq_some_iff] at h
    obtain ⟨as', has, r, hr, h⟩ := h
    split at h
    rotate_left
    · cases h
    rename_i hnext
    have hga : GR M C ⟨G.next, if snap then G.obj else noObj⟩ w := by
      cases snap
      · exact hg.none
      · exact hg
    generalize hGa : (⟨G.next, if snap then G.obj else noObj⟩ : AG) = Ga at hga
    have hobj : (if snap then G.obj else noObj) = Ga.obj := by rw [← hGa]
    have hnx : Ga.next = G.next := by rw [← hGa]
    rw [hobj] at has
    have hcf : VsR M (frzC C Ga w) as' args := by
      obtain ⟨h1, h2⟩ := omap_get has
      refine ⟨by rw [h1]; exact ha.1, fun i x y hx hy => ?_⟩
      obtain ⟨x0, h3, h4⟩ := omap_back has hx
      exact frz_sound hga 8 x0 x y h4 (ha.2 i x0 y h3 hy)
    have hgf : GR M (frzC C Ga w) ⟨G.next, noObj⟩ w := by rw [← hnx]; exact frz_gr hga
    have hlf := frzC_le hga
    have hsnap : snap = false → ∀ b arr, (frzC C Ga w).im b = some arr → C.im b = some arr := by
      intro hs b arr hb
      subst hs
      simp only [frzC] at hb
      rw [if_neg] at hb
      exact hb
      rw [← hGa]
      exact fun hl => live_none hl
    obtain ⟨v1, G1⟩ := r
    refine Calls.mono (hc f k as' ⟨G.next, noObj⟩ v1 G1 hk hr (frzC C Ga w) w args hgf hcf) (fun e w1 he => ?_)
    cases e with
    | panicked _ => exact he.elim
    | outgrown => exact he.elim
    | returned V =>
      obtain ⟨C1, hret, hv⟩ := he
      have hn : C.n ≤ C1.n := Nat.le_trans hlf.n hret.le.n
      have hio : ∀ id, id < C.n → C1.io id = C.io id := fun id hid => hret.le.io id hid
      have hun : Un w w1 (fun _ => False) := hret.un.mono (fun b hb => live_none hb)
      have hlv : ∀ id es, G1.obj id = some es → w.heap.size ≤ (C1.io id).blk := fun id es hid => (hret.lv _ ⟨id, es, hid, rfl⟩).elim (fun hl => (live_none hl).elim) (fun h2 => h2)
      have him1 : ∀ b arr, C1.im b = some arr → (frzC C Ga w).im b = some arr ∨ w.heap.size ≤ b := fun b arr hb => (hret.im b arr hb).elim .inl (fun h2 => h2.elim (fun hl => (live_none hl).elim) .inr)
      have hsub1 : ∀ b arr, C.im b = some arr → C1.im b = some arr := fun b arr hb => hret.le.im b arr (hlf.im b arr hb)
      have hC1 : (⟨C1.n, C1.io, C1.im⟩ : Cx) = C1 := rfl
      have hold : ∀ b arr, C.im b = some arr → ∀ id es, G1.obj id = some es → (C1.io id).blk ≠ b := by
        intro b arr hb id es hid e
        have h2 := hlv id es hid
        have h3 := hg.imlt hb
        omega
      have himw : ∀ b arr, C.im b = some arr → ∃ ty fr, w1.heap[b]? = some (.cells arr ty fr) := by
        intro b arr hb
        obtain ⟨⟨ty, f, h2⟩, _⟩ := hg.im b arr hb
        exact ⟨ty, f, by rw [hun.blk b (hg.imlt hb) (fun hf => hf)]; exact h2⟩
      cases fz with
      | true =>
        simp only [if_true, Option.bind_eq_some_iff] at h
        obtain ⟨v2, hv2, h⟩ := h
        split at h
        rotate_left
        · cases h
        rename_i hcond
        injection h with h
        injection h with e1 e2
        subst e1 e2
        have hvf := frz_sound hret.gr 8 v1 v2 V hv2 hv
        rcases hcond with hs | hno
        · have hj := ret_join (im2 := (frzC C1 G1 w1).im) (n1 := G1.next) (H := noObj) hg hn hio hun (frz_gr hret.gr) (fun _ _ hh => (noob hh).elim) (fun b arr hb => ?_) (fun b arr hb => (frzC_le hret.gr).im b arr (hsub1 b arr hb))
          · rw [ovr_noObj] at hj
            exact ⟨_, hj, hvf⟩
          · simp only [frzC] at hb
            split at hb
            · rename_i hl
              right
              obtain ⟨id, es, hid, rfl⟩ := hl
              exact hlv id es hid
            · rcases him1 b arr hb with h2 | h2
              · exact .inl (hsnap hs b arr h2)
              · exact .inr h2
        · have hgr : GR M ⟨C1.n, C1.io, C.im⟩ ⟨G1.next, noObj⟩ w1 :=
            ⟨hret.gr.n, fun _ _ hh => (noob hh).elim, fun _ _ _ _ hh => (noob hh).elim, fun b arr hb => ⟨himw b arr hb, fun _ _ hh => (noob hh).elim⟩⟩
          have hj := ret_join (im2 := C.im) (n1 := G1.next) (H := noObj) hg hn hio hun hgr (fun _ _ hh => (noob hh).elim) (fun b arr hb => .inl hb) (fun b arr hb => hb)
          rw [ovr_noObj] at hj
          exact ⟨_, hj, hvf.noIm hno⟩
      | false =>
        simp only [Bool.false_eq_true, if_false] at h
        split at h
        rotate_left
        · cases h
        rename_i hcond
        injection h with h
        injection h with e1 e2
        subst e1 e2
        rcases hcond with hs | ⟨hno, hnoO⟩
        · exact ⟨_, ret_join (im2 := C1.im) (n1 := G1.next) (H := G1.obj) hg hn hio hun hret.gr hlv (fun b arr hb => (him1 b arr hb).elim (fun h2 => .inl (hsnap hs b arr h2)) .inr) hsub1, hv⟩
        · have hgr : GR M ⟨C1.n, C1.io, C.im⟩ ⟨G1.next, G1.obj⟩ w1 := by
            refine ⟨hret.gr.n, fun id es hid => ?_, hret.gr.inj, fun b arr hb => ⟨himw b arr hb, hold b arr hb⟩⟩
            obtain ⟨h2, cur, ty, h3, h4⟩ := hret.gr.ob id es hid
            refine ⟨h2, cur, ty, h3, h4.pos, h4.size, h4.big, h4.fit, fun i e he => ⟨(h4.el i e he).1, ((h4.el i e he).2).fit, fun c x y hx hy => ?_⟩⟩
            have h5 := ((h4.el i e he).2).at_ c x y hx hy
            exact ⟨h5.v.noIm (hnoO id es hid e (List.mem_of_getElem? he) x (List.mem_of_getElem? hx)), h5.one⟩
          exact ⟨_, ret_join (im2 := C.im) (n1 := G1.next) (H := G1.obj) hg hn hio hun hgr hlv (fun b arr hb => .inl hb) (fun b arr hb => hb), hv.noIm hno⟩
end Go.Ai
