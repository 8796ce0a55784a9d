/- Machines: the program's test of shape. Machines: the program's MachOk. What is owned, one part after another: a cell is turned, a row is put behind, a list is left. -/
import Derived.Test.YtffliemhdjcflaaF1
import Derived.Test.YtffliemhdjcflaaE1
set_option linter.unusedSimpArgs false
set_option linter.unusedVariables false
namespace Go.Ai
variable {mt : Nat → Nat → Option Nat}
attribute [local simp] cnd_ite gS_ite
def frameOkI (p : GProg) (m : GMach) (i k : Int) (f : GFrame) : Bool :=
  formOk p (frameCall f (-1)) m.twins.length && (inR f.twin (-1) (m.twins.length - 1) && (!decide (0 ≤ f.twin) || (decide ((twinAt m f.twin).page = i) && decide ((twinAt m f.twin).at_ = k))))
def lastI (m : GMach) (x : Pl) : Bool := !decide (0 ≤ x.1) || decide (x.2 = ((framesAt m x.1).length : Int) - 1)
def pageOkI (p : GProg) (m : GMach) (i : Nat) : Bool := match m.pages[i]? with
  | some g => inR g.base (-1) (m.twins.length - 1) && (!(decide (g.frames.length = 0) && !decide (g.base = -1)) && (decide (usedI g ≤ m.cells) && ((!(placeI m g.base).2 || lastI m (placeI m g.base).1) &&
      allN g.frames.length (fun k => match g.frames[k]? with | some f => frameOkI p m i k f | none => false))))
  | none => false
def twinOkI (p : GProg) (m : GMach) (i : Nat) : Bool := match m.twins[i]? with
  | some t => (placeI m i).2 && (if (placeI m i).1.1 < 0 then decide (t.page = -1) && (decide (t.at_ = 0) && formOk p t.left m.twins.length) else emptyC t.left && decide ((frameAt m (placeI m i).1).twin = i))
  | none => false
def shapedI (p : GProg) (m : GMach) : Bool := allN m.pages.length (pageOkI p m) && allN m.twins.length (twinOkI p m)
def rest79 : AC := (.seq (.seq (.reg [xL 0 52 8 2, xf 1 53 0 7, xl 2 54 53,
    ⟨3, some 55, none, .call (.alone false true) 85 [.t 52, .t 54]⟩, xm 4 51 55,
    ⟨5, some 56, none, .ext (.t 51) 0⟩,
    ⟨6, some 57, none, .ext (.t 51) 1⟩,
    ⟨7, some 8, none, .allocP [.int .i64 0, .int .i64 0]⟩,
    ⟨8, none, none, .store 2 (.t 8) (.t 56)⟩, xm 9 9 57] [2, 3, 5, 6, 7, 8, 9, 20, 21, 22])
  (.seq (.reg [xm 0 58 9, xm 1 59 58,
    ⟨2, some 60, some (59, true), .fld 0 (.t 8)⟩,
    ⟨3, some 61, some (59, true), .load none (.t 60)⟩,
    ⟨4, some 62, some (59, true), .bin .geq (.t 61) (.c (.int .i64 0))⟩,
    ⟨5, some 63, none, .pick (.t 59) (.t 62) (.c (.bool false))⟩, xm 6 64 63,
    ⟨7, some 65, some (64, true), .fld 1 (.t 8)⟩,
    ⟨8, some 66, some (64, true), .load none (.t 65)⟩,
    ⟨9, some 67, some (64, true), .fld 1 (.t 2)⟩,
    ⟨10, some 68, some (64, true), .load none (.t 67)⟩,
    ⟨11, some 69, some (64, true), .fld 0 (.t 8)⟩,
    ⟨12, some 70, some (64, true), .load none (.t 69)⟩,
    ⟨13, some 71, some (64, true), .idx 2 (.t 68) (.t 70)⟩,
    ⟨14, some 72, some (64, true), .fld 1 (.t 71)⟩,
    ⟨15, some 73, some (64, true), .load none (.t 72)⟩,
    ⟨16, some 74, some (64, true), .len (.t 73)⟩,
    ⟨17, some 75, some (64, true), .bin .sub (.t 74) (.c (.int .i64 1))⟩,
    ⟨18, some 76, some (64, true), .bin .neq (.t 66) (.t 75)⟩,
    ⟨19, some 77, none, .pick (.t 64) (.t 76) (.c (.bool false))⟩] [2, 3, 5, 6, 7, 20, 21, 22, 77])
  (.cond (.t 77)
  (.seq (.reg [⟨0, some 4, none, .mv (.c (.bool false))⟩] [4])
  .ret)
  .skip)))
  (.seq (.reg [xf 0 78 1 7, xl 1 79 78,
    ⟨2, some 80, none, .len (.t 79)⟩,
    ⟨3, some 81, none, .mv (.c (.int .i64 0))⟩] [2, 3, 5, 6, 20, 21, 22, 79, 80, 81])
  (.block 2
  (.loop l_79_0))))
theorem b79_eq : b_79_1 = (.seq (.reg [⟨0, some 23, none, .bin .lss (.t 22) (.t 21)⟩] [2, 3, 5, 20, 21, 22, 23])
  (.seq (.cond (.t 23)
  .skip
  (.exit 0))
  (.seq (.block 1
  (.seq (.reg [xm 0 24 22, xi 1 25 2 20 22, xL 2 26 2 25,
    ⟨3, some 7, none, .allocP [.int .i64 0, .nils]⟩, xm 4 6 24,
    ⟨5, none, none, .store 2 (.t 7) (.t 26)⟩] [2, 3, 5, 6, 7, 20, 21, 22])
  (.seq (.seq (.reg [xf 0 27 0 7, xl 1 28 27, xm 2 29 5,
    ⟨3, some 30, none, .bin .sub (.t 29) (.c (.int .i64 1))⟩,
    ⟨4, some 31, none, .call (.alone false true) 66 [.t 28, .c (.int .i64 (-1)), .t 30]⟩,
    ⟨5, some 32, none, .nt (.t 31)⟩, xm 6 33 32,
    ⟨7, some 34, some (33, false), .fld 1 (.t 7)⟩,
    ⟨8, some 35, some (33, false), .load none (.t 34)⟩,
    ⟨9, some 36, some (33, false), .len (.t 35)⟩,
    ⟨10, some 37, some (33, false), .bin .eql (.t 36) (.c (.int .i64 0))⟩,
    ⟨11, some 38, some (33, false), .mv (.t 37)⟩,
    ⟨12, some 39, some (38, true), .fld 0 (.t 7)⟩,
    ⟨13, some 40, some (38, true), .load none (.t 39)⟩,
    ⟨14, some 41, some (38, true), .bin .neq (.t 40) (.c (.int .i64 (-1)))⟩,
    ⟨15, some 42, some (33, false), .pick (.t 38) (.t 41) (.c (.bool false))⟩,
    ⟨16, some 43, none, .pick (.t 33) (.c (.bool true)) (.t 42)⟩, xm 17 44 43,
    ⟨18, some 45, some (44, false), .load (some 2) (.t 7)⟩,
    ⟨20, some 47, some (44, false), .fld 0 (.t 2)⟩,
    ⟨21, some 48, some (44, false), .load none (.t 47)⟩,
    ⟨19, some 46, some (44, false), .call (.alone false true) 103 [.t 45]⟩,
    ⟨21, none, some (44, false), .again 48 (.load none (.t 47))⟩,
    ⟨22, some 49, some (44, false), .bin .gtr (.t 46) (.t 48)⟩,
    ⟨23, some 50, none, .pick (.t 44) (.c (.bool true)) (.t 49)⟩] [2, 3, 5, 6, 7, 20, 21, 22, 50])
  (.cond (.t 50)
  (.seq (.reg [⟨0, some 4, none, .mv (.c (.bool false))⟩] [4])
  .ret)
  .skip))
  rest79)))
  (.reg [⟨0, some 126, none, .bin .add (.t 22) (.c (.int .i64 1))⟩, xm 1 22 126] [2, 3, 5, 20, 21, 22])))) := rfl
/-- Behind the first tests of a page. -/
theorem rest_79 (p : GProg) (m : GMach) (hP : ShP p) (h : ShM m) {i k : Nat} {g : GPage} (hi : i < m.pages.length) (hx : m.pages[i]? = some g) {R : Bool} {S : List KF}
    (bad : ((!(placeI m g.base).2 || lastI m (placeI m g.base).1) && allN g.frames.length (fun k => match g.frames[k]? with | some f => frameOkI p m i k f | none => false)) = false → R = false)
    (hR : R = false → ∀ fr n, k ≤ n → fr 4 = .bool false → Gv k (.bool R) (unw AP mt .ret fr ⟨n, noObj⟩ S))
    (hE : ((!(placeI m g.base).2 || lastI m (placeI m g.base).1) && allN g.frames.length (fun k => match g.frames[k]? with | some f => frameOkI p m i k f | none => false)) = true → ∀ fr n, k ≤ n → fr 22 = vi i → fr 21 = vi m.pages.length → fr 20 = lPage m.pages → fr 5 = vi m.twins.length → fr 3 = .pbox [lMethod p] → fr 2 = .pbox [vi m.cells, lPage m.pages, lInt m.order, vi m.now, lTwin m.twins, vi m.born, lVal m.said, vi m.code] → Gv k (.bool R) (unw AP mt .normal fr ⟨n, noObj⟩ S))
    {fr : Fr} {n : Nat} (hm : k ≤ n) (e8 : fr 8 = .undef) (e22 : fr 22 = vi i) (e21 : fr 21 = vi m.pages.length) (e20 : fr 20 = lPage m.pages) (e7 : fr 7 = .pbox [vi g.base, lFrame g.frames]) (e6 : fr 6 = vi i) (e5 : fr 5 = vi m.twins.length) (e3 : fr 3 = .pbox [lMethod p]) (e2 : fr 2 = .pbox [vi m.cells, lPage m.pages, lInt m.order, vi m.now, lTwin m.twins, vi m.born, lVal m.said, vi m.code]) :
    Gv k (.bool R) (evS AP mt rest79 fr ⟨n, noObj⟩ S) := by
  have hp := h.pg
  have ht := h.tw
  have hfr := h.fr g (List.mem_of_getElem? hx)
  have q66 := fun a b c => r_66 (mt := mt) a b c
  have q85 := m_85 (mt := mt) m h g.base
  have q81 := fun f s => m_81 (mt := mt) f s
  unfold Q at q66 q85 q81
  have hwt : IntKind.i64.wrap ((m.twins.length : Int) - 1) = m.twins.length - 1 := wrap_id (by omega) (by omega)
  have hwi : IntKind.i64.wrap (i : Int) = i := wrap_id (by omega) (by omega)
  -- the frames
  have inner : (!(placeI m g.base).2 || lastI m (placeI m g.base).1) = true → ∀ n', k ≤ n' → Gv k (.bool R) (evS AP mt (.loop l_79_0) (upd (upd (upd (upd (upd (upd (upd (upd (upd (upd fr0 81 (vi 0)) 80 (vi g.frames.length)) 79 (lFrame g.frames)) 22 (vi i)) 21 (vi m.pages.length)) 20 (lPage m.pages)) 6 (vi i)) 5 (vi m.twins.length)) 3 (.pbox [lMethod p])) 2 (.pbox [vi m.cells, lPage m.pages, lInt m.order, vi m.now, lTwin m.twins, vi m.born, lVal m.said, vi m.code])) ⟨n', noObj⟩ (.block 2 :: S)) := by
    intro hb n' hn'
    rw [hb, Bool.true_and] at bad hE
    have key := loop_for (AP := AP) (mt := mt) (l := l_79_0) (b := b_79_0) (S := .block 2 :: S) (Gv k (.bool R)) g.frames.length (fun j (_ : Unit) => upd (upd (upd (upd (upd (upd (upd (upd (upd (upd fr0 81 (vi j)) 80 (vi g.frames.length)) 79 (lFrame g.frames)) 22 (vi i)) 21 (vi m.pages.length)) 20 (lPage m.pages)) 6 (vi i)) 5 (vi m.twins.length)) 3 (.pbox [lMethod p])) 2 (.pbox [vi m.cells, lPage m.pages, lInt m.order, vi m.now, lTwin m.twins, vi m.born, lVal m.said, vi m.code]))
      (fun j _ G => k ≤ G.next ∧ G.obj = noObj ∧ ∀ j', j' < j → (match g.frames[j']? with | some f => frameOkI p m i j' f | none => false) = true) (fun _ _ _ => u_79_0) ?_ ?_ g.frames.length 0 () ⟨n', noObj⟩ (by omega) ⟨hn', rfl, fun j hj => by omega⟩
    · simpa using key
    · rintro _ ⟨n1, g1⟩ ⟨hm1, rfl, hall⟩
      dsimp only at hm1
      simp [b_79_0]
      exact hE (allN_iff.2 hall) _ _ hm1 (by simp) (by simp) (by simp) (by simp) (by simp) (by simp)
    · rintro j _ ⟨n1, g1⟩ hj ⟨hm1, rfl, hall⟩ next
      dsimp only at hm1
      have hwr : IntKind.i64.wrap ((j : Int) + 1) = (j : Int) + 1 := wrap_id (by omega) (by omega)
      have hc : (j : Int) < g.frames.length := by omega
      obtain ⟨f, hf⟩ : ∃ t, g.frames[j]? = some t := ⟨_, List.getElem?_eq_getElem hj⟩
      have ix := fun g' => idx_ok (g := g') (k := .i64) (w_Frame g.frames) (show (0:Int) ≤ j by omega) (by simpa using hc)
      have hfl := hfr.2 f (List.mem_of_getElem? hf)
      have q68 := m_68 (mt := mt) p (frameCall f (-1)) m.twins.length hP (by omega) hfl
      unfold Q at q68
      have bad2 : frameOkI p m i j f = false → R = false := fun e => bad (allN_false hj (by rw [hf]; exact e))
      have go : frameOkI p m i j f = true → ∀ n2, k ≤ n2 → Gv k (.bool R) (evS AP mt (.loop l_79_0) (upd (upd (upd (upd (upd (upd (upd (upd (upd (upd fr0 81 (vi ((j : Int) + 1))) 80 (vi g.frames.length)) 79 (lFrame g.frames)) 22 (vi i)) 21 (vi m.pages.length)) 20 (lPage m.pages)) 6 (vi i)) 5 (vi m.twins.length)) 3 (.pbox [lMethod p])) 2 (.pbox [vi m.cells, lPage m.pages, lInt m.order, vi m.now, lTwin m.twins, vi m.born, lVal m.said, vi m.code])) ⟨n2, noObj⟩ (.block 2 :: S)) := fun e n2 hn2 => by
        simpa using next () ⟨n2, noObj⟩ ⟨hn2, rfl, fun j' hj' => by
          by_cases hji : j' = j
          · subst hji; rw [hf]; exact e
          · exact hall j' (by omega)⟩
      cases h1 : formOk p (frameCall f (-1)) m.twins.length
      · rw [h1] at q68
        simp [b_79_0, hc, ix, hf, q81, q68]
        exact hR (bad2 (by simp [frameOkI, h1])) _ _ (le_nxt (le_nxt hm1)) (by simp)
      rw [h1] at q68
      cases h2 : inR f.twin (-1) (m.twins.length - 1)
      · simp [b_79_0, hc, ix, hf, q81, q68, hwt, q66, h2]
        exact hR (bad2 (by simp [frameOkI, h1, h2])) _ _ (le_nxt (le_nxt (le_nxt hm1))) (by simp)
      by_cases h3 : 0 ≤ f.twin
      rotate_left
      · simp [b_79_0, hc, ix, hf, q81, q68, hwt, q66, h2, h3, hwr]
        exact go (by simp [frameOkI, h1, h2, h3]) _ (le_nxt (le_nxt (le_nxt hm1)))
      have h2' := inR_iff.1 h2
      obtain ⟨t, ht1, ht2⟩ := twin_get (m := m) h3 (by omega)
      have ix2 := fun g' => idx_ok (g := g') (k := .i64) (w_Twin m.twins) h3 (by simp; omega)
      by_cases h4 : t.page = i
      rotate_left
      · simp [b_79_0, hc, ix, hf, q81, q68, hwt, q66, h2, h3, ix2, ht1, h4]
        exact hR (bad2 (by simp [frameOkI, h1, h2, h3, ht2, h4])) _ _ (le_nxt (le_nxt (le_nxt hm1))) (by simp)
      by_cases h5 : t.at_ = j
      rotate_left
      · simp [b_79_0, hc, ix, hf, q81, q68, hwt, q66, h2, h3, ix2, ht1, h4, h5]
        exact hR (bad2 (by simp [frameOkI, h1, h2, h3, ht2, h4, h5])) _ _ (le_nxt (le_nxt (le_nxt hm1))) (by simp)
      simp [b_79_0, hc, ix, hf, q81, q68, hwt, q66, h2, h3, ix2, ht1, h4, h5, hwr]
      exact go (by simp [frameOkI, h1, h2, h3, ht2, h4, h5]) _ (le_nxt (le_nxt (le_nxt hm1)))
  cases hr : (placeI m g.base).2
  · rw [hr] at q85
    simp [rest79, e8, e2, e3, e5, e6, e7, e20, e21, e22, q85]
    exact inner (by rw [hr]; rfl) _ (le_nxt hm)
  have hpl := place_ok hr
  rw [hr] at q85
  simp only [hr, Bool.not_true, Bool.false_or] at inner bad
  generalize (placeI m g.base).1 = X at *
  obtain ⟨pg, at'⟩ := X
  by_cases hneg : pg < 0
  · have hneg' : ¬ 0 ≤ pg := by omega
    simp [rest79, e8, e2, e3, e5, e6, e7, e20, e21, e22, q85, hneg']
    exact inner (by simp [lastI]; omega) _ (le_nxt hm)
  · have hneg' : 0 ≤ pg := by omega
    rcases hpl with ⟨h2, _⟩ | ⟨h2, h3, h4, h5⟩
    · exact absurd h2 hneg
    obtain ⟨g2, hg, hf, _⟩ := page_get (m := m) h2 h3
    have hfl2 := (h.fr g2 (List.mem_of_getElem? hg)).1
    have ix2 := fun g => idx_ok (g := g) (k := .i64) (w_Page m.pages) h2 (by simpa using h3)
    have hw2 : IntKind.i64.wrap ((g2.frames.length : Int) - 1) = g2.frames.length - 1 := wrap_id (by omega) (by omega)
    dsimp only at hf
    by_cases h6 : at' = (g2.frames.length : Int) - 1
    · simp [rest79, e8, e2, e3, e5, e6, e7, e20, e21, e22, q85, hneg', ix2, hg, hw2, h6]
      exact inner (by simp only [lastI, hf, h6]; simp) _ (le_nxt hm)
    · simp [rest79, e8, e2, e3, e5, e6, e7, e20, e21, e22, q85, hneg', ix2, hg, hw2, h6]
      exact hR (bad (by simp only [lastI, hf]; simp [h6, hneg'])) _ _ (le_nxt hm) (by simp)
theorem m_79 (p : GProg) (m : GMach) (hP : ShP p) (h : ShM m) : Q mt 79 [aMach m, aProg p] (.bool (shapedI p m)) := by
  have hp := h.pg
  have ht := h.tw
  have q66 := fun a b c => r_66 (mt := mt) a b c
  have q85 := fun t => m_85 (mt := mt) m h t
  have q104 := fun c => m_104 (mt := mt) c
  have q81 := fun f s => m_81 (mt := mt) f s
  unfold Q at q66 q85 q104 q81
  have hwt : IntKind.i64.wrap ((m.twins.length : Int) - 1) = m.twins.length - 1 := wrap_id (by omega) (by omega)
  refine Q.of rfl (fun k => ?_)
  rw [run_evS AP_79 _ _ rfl]
  simp [c_79]
  refine loop_for (Gv k (.bool (shapedI p m))) m.pages.length (fun i (_ : Unit) => upd (upd (upd (upd (upd (upd fr0 22 (vi i)) 21 (vi m.pages.length)) 20 (lPage m.pages)) 5 (vi m.twins.length)) 3 (.pbox [lMethod p])) 2 (.pbox [vi m.cells, lPage m.pages, lInt m.order, vi m.now, lTwin m.twins, vi m.born, lVal m.said, vi m.code]))
    (fun i _ G => k ≤ G.next ∧ G.obj = noObj ∧ ∀ j, j < i → pageOkI p m j = true) (fun _ _ _ => u_79_1) ?_ ?_ m.pages.length 0 () ⟨k, noObj⟩ (by omega) ⟨Nat.le_refl _, rfl, fun j hj => by omega⟩
  · rintro _ ⟨n, g⟩ ⟨hm, rfl, hall⟩
    dsimp only at hm
    have hpg : allN m.pages.length (pageOkI p m) = true := allN_iff.2 hall
    simp [b_79_1]
    refine loop_for (Gv k (.bool (shapedI p m))) m.twins.length (fun i (_ : Unit) => upd (upd (upd (upd (upd (upd fr0 130 (vi i)) 129 (vi m.twins.length)) 128 (lTwin m.twins)) 5 (vi m.twins.length)) 3 (.pbox [lMethod p])) 2 (.pbox [vi m.cells, lPage m.pages, lInt m.order, vi m.now, lTwin m.twins, vi m.born, lVal m.said, vi m.code]))
      (fun i _ G => k ≤ G.next ∧ G.obj = noObj ∧ ∀ j, j < i → twinOkI p m j = true) (fun _ _ _ => u_79_2) ?_ ?_ m.twins.length 0 () ⟨n, noObj⟩ (by omega) ⟨hm, rfl, fun j hj => by omega⟩
    · rintro _ ⟨n, g⟩ ⟨hm, rfl, hall2⟩
      dsimp only at hm
      simp [b_79_2]
      exact Gv.bool hm (by rw [shapedI, hpg, allN_iff.2 hall2]; rfl)
    · rintro i _ ⟨n, g⟩ hi ⟨hm, rfl, hall2⟩ next
      dsimp only at hm
      have hwr : IntKind.i64.wrap ((i : Int) + 1) = (i : Int) + 1 := wrap_id (by omega) (by omega)
      have hc : (i : Int) < m.twins.length := by omega
      obtain ⟨t, hx⟩ : ∃ t, m.twins[i]? = some t := ⟨_, List.getElem?_eq_getElem hi⟩
      have ix := fun g => idx_ok (g := g) (k := .i64) (w_Twin m.twins) (show (0:Int) ≤ i by omega) (by simpa using hc)
      have hlf := h.lf t (List.mem_of_getElem? hx)
      have q68 := m_68 (mt := mt) p t.left m.twins.length hP (by omega) hlf
      unfold Q at q68
      have bad : twinOkI p m i = false → shapedI p m = false := fun e => by rw [shapedI, allN_false hi e, Bool.and_false]
      have go : twinOkI p m i = true → ∀ n', k ≤ n' → Gv k (.bool (shapedI p m)) (evS AP mt (.loop l_79_2) (upd (upd (upd (upd (upd (upd fr0 130 (vi ((i : Int) + 1))) 129 (vi m.twins.length)) 128 (lTwin m.twins)) 5 (vi m.twins.length)) 3 (.pbox [lMethod p])) 2 (.pbox [vi m.cells, lPage m.pages, lInt m.order, vi m.now, lTwin m.twins, vi m.born, lVal m.said, vi m.code])) ⟨n', noObj⟩ _) := fun e n' hn' => by
        simpa using next () ⟨n', noObj⟩ ⟨hn', rfl, fun j hj => by
          by_cases hji : j = i
          · subst hji; exact e
          · exact hall2 j (by omega)⟩
      have e0 : twinOkI p m i = ((placeI m i).2 && (if (placeI m i).1.1 < 0 then decide (t.page = -1) && (decide (t.at_ = 0) && formOk p t.left m.twins.length) else emptyC t.left && decide ((frameAt m (placeI m i).1).twin = i))) := by unfold twinOkI; rw [hx]
      rw [e0] at bad go
      cases hr : (placeI m i).2
      · have q := q85 i
        rw [hr] at q
        simp [b_79_2, hc, ix, hx, q]
        exact Gv.bool (le_nxt hm) (by rw [bad (by rw [hr]; rfl)])
      have hpl := place_ok hr
      have q := q85 i
      rw [hr] at q
      simp only [hr, Bool.true_and] at bad go
      generalize placeI m i = R at *
      obtain ⟨⟨pg, at'⟩, b⟩ := R
      simp only at bad go q hpl hr
      by_cases hneg : pg < 0
      · have hneg' : ¬ 0 ≤ pg := by omega
        simp only [if_pos hneg] at bad go
        by_cases h1 : t.page = -1
        rotate_left
        · simp [b_79_2, hc, ix, hx, q, hneg, h1]
          exact Gv.bool (le_nxt hm) (by rw [bad (by simp [h1])])
        by_cases h2 : t.at_ = 0
        rotate_left
        · simp [b_79_2, hc, ix, hx, q, hneg, h1, h2]
          exact Gv.bool (le_nxt hm) (by rw [bad (by simp [h2])])
        cases h3 : formOk p t.left m.twins.length
        · rw [h3] at q68
          simp [b_79_2, hc, ix, hx, q, hneg, h1, h2, q68]
          exact Gv.bool (le_nxt (le_nxt hm)) (by rw [bad (by simp [h3])])
        · rw [h3] at q68
          simp [b_79_2, hc, ix, hx, q, hneg, hneg', h1, h2, q68, hwr]
          exact go (by simp [h1, h2, h3]) _ (le_nxt (le_nxt hm))
      · have hneg' : 0 ≤ pg := by omega
        simp only [if_neg hneg] at bad go
        have qe := q104 t.left
        cases h1 : emptyC t.left
        · rw [h1] at qe
          simp [b_79_2, hc, ix, hx, q, hneg, hneg', qe]
          exact Gv.bool (le_nxt (le_nxt hm)) (by rw [bad (by simp [h1])])
        rw [h1] at qe
        rcases hpl with ⟨h2, _⟩ | ⟨h2, h3, h4, h5⟩
        · exact absurd h2 hneg
        obtain ⟨g, hg, hf, _⟩ := page_get (m := m) h2 h3
        obtain ⟨f, hff, e⟩ := frame_get (m := m) h4 h5
        rw [hf] at hff h5
        rw [e] at bad go
        have ix2 := fun g => idx_ok (g := g) (k := .i64) (w_Page m.pages) h2 (by simpa using h3)
        have ix3 := fun g' => idx_ok (g := g') (k := .i64) (w_Frame g.frames) h4 (by simpa using h5)
        by_cases h6 : f.twin = i
        · simp [b_79_2, hc, ix, hx, q, hneg, hneg', qe, ix2, hg, ix3, hff, h6, hwr]
          exact go (by simp [h1, h6]) _ (le_nxt (le_nxt hm))
        · simp [b_79_2, hc, ix, hx, q, hneg, hneg', qe, ix2, hg, ix3, hff, h6]
          exact Gv.bool (le_nxt (le_nxt hm)) (by rw [bad (by simp [h6])])
  · rintro i _ ⟨n, g0⟩ hi ⟨hm, rfl, hall⟩ next
    dsimp only at hm
    have hwr : IntKind.i64.wrap ((i : Int) + 1) = (i : Int) + 1 := wrap_id (by omega) (by omega)
    have hc : (i : Int) < m.pages.length := by omega
    obtain ⟨g, hx⟩ : ∃ t, m.pages[i]? = some t := ⟨_, List.getElem?_eq_getElem hi⟩
    have ix := fun g => idx_ok (g := g) (k := .i64) (w_Page m.pages) (show (0:Int) ≤ i by omega) (by simpa using hc)
    have hfr := h.fr g (List.mem_of_getElem? hx)
    have q103 := m_103 (mt := mt) g hfr.1 (fun f hf => (hfr.2 f hf).1)
    unfold Q at q103
    have bad : pageOkI p m i = false → shapedI p m = false := fun e => by rw [shapedI, allN_false hi e, Bool.false_and]
    have go : pageOkI p m i = true → ∀ n', k ≤ n' → Gv k (.bool (shapedI p m)) (evS AP mt (.loop l_79_1) (upd (upd (upd (upd (upd (upd fr0 22 (vi ((i : Int) + 1))) 21 (vi m.pages.length)) 20 (lPage m.pages)) 5 (vi m.twins.length)) 3 (.pbox [lMethod p])) 2 (.pbox [vi m.cells, lPage m.pages, lInt m.order, vi m.now, lTwin m.twins, vi m.born, lVal m.said, vi m.code])) ⟨n', noObj⟩ _) := fun e n' hn' => by
      simpa using next () ⟨n', noObj⟩ ⟨hn', rfl, fun j hj => by
        by_cases hji : j = i
        · subst hji; exact e
        · exact hall j (by omega)⟩
    have e0 : pageOkI p m i = (inR g.base (-1) (m.twins.length - 1) && (!(decide (g.frames.length = 0) && !decide (g.base = -1)) && (decide (usedI g ≤ m.cells) && ((!(placeI m g.base).2 || lastI m (placeI m g.base).1) &&
      allN g.frames.length (fun k => match g.frames[k]? with | some f => frameOkI p m i k f | none => false))))) := by unfold pageOkI; rw [hx]
    rw [e0] at bad go
    cases h1 : inR g.base (-1) (m.twins.length - 1)
    · simp [b_79_1, hc, ix, hx, hwt, q66, h1]
      exact Gv.bool (le_nxt hm) (by rw [bad (by simp [h1])])
    by_cases h2 : g.frames.length = 0 ∧ g.base ≠ -1
    · have h2a : g.frames = [] := List.length_eq_zero_iff.1 h2.1
      simp [b_79_1, hc, ix, hx, hwt, q66, h1, h2a, h2.2]
      exact Gv.bool (le_nxt hm) (by rw [bad (by simp [h2.1, h2.2])])
    have h2' : (!(decide (g.frames.length = 0) && !decide (g.base = -1))) = true := by
      by_cases a : g.frames.length = 0
      · by_cases b : g.base = -1
        · simp [b]
        · exact absurd ⟨a, b⟩ h2
      · simp [a]
    simp only [h1, h2', Bool.true_and] at bad go
    have fin : ∀ fr n', k ≤ n' → usedI g ≤ m.cells → fr 8 = .undef → fr 22 = vi i → fr 21 = vi m.pages.length → fr 20 = lPage m.pages → fr 7 = .pbox [vi g.base, lFrame g.frames] → fr 6 = vi i → fr 5 = vi m.twins.length → fr 3 = .pbox [lMethod p] → fr 2 = .pbox [vi m.cells, lPage m.pages, lInt m.order, vi m.now, lTwin m.twins, vi m.born, lVal m.said, vi m.code] → Gv k (.bool (shapedI p m)) (evS AP mt rest79 fr ⟨n', noObj⟩ [.block 1, .seq (.reg [⟨0, some 126, none, .bin .add (.t 22) (.c (.int .i64 1))⟩, xm 1 22 126] [2, 3, 5, 20, 21, 22]), .loop l_79_1, .block 0, .seq (.seq (.seq (.reg [xf 0 127 4 2, xl 1 128 127,
    ⟨2, some 129, none, .len (.t 128)⟩,
    ⟨3, some 130, none, .mv (.c (.int .i64 0))⟩] [2, 3, 5, 128, 129, 130])
  (.block 4
  (.loop l_79_2)))
  (.seq (.reg [⟨0, some 4, none, .mv (.c (.bool true))⟩] [4])
  .ret)), .fin [.t 4]]) := by
      intro fr n' hn' hu e8 e22 e21 e20 e7 e6 e5 e3 e2
      refine rest_79 p m hP h hi hx (fun e => bad (by simp [hu, e])) ?_ ?_ hn' e8 e22 e21 e20 e7 e6 e5 e3 e2
      rotate_left
      · intro e fr n2 hn2 a22 a21 a20 a5 a3 a2
        have := go (by simp [hu, e]) n2 hn2
        simp [a22, a21, a20, a5, a3, a2, hwr]
        exact this
      · intro e fr n2 hn2 a4
        simp [a4]
        exact Gv.bool hn2 e.symm
    by_cases hu : usedI g ≤ m.cells
    · have hu' : ¬ m.cells < usedI g := by omega
      by_cases hfe : g.frames.length = 0
      · have hbe : g.base = -1 := by
          by_cases b : g.base = -1
          · exact b
          · exact absurd ⟨hfe, b⟩ h2
        have hfe' : (g.frames.length = 0) = True := eq_true hfe
        simp [-List.length_eq_zero_iff, b79_eq, hc, ix, hx, hwt, q66, h1, hfe', eq_true hbe, q103, hu']
        exact fin _ _ (le_nxt (le_nxt hm)) hu rfl rfl rfl rfl rfl rfl rfl rfl rfl
      · have hfe' : (g.frames.length = 0) = False := eq_false hfe
        simp [-List.length_eq_zero_iff, b79_eq, hc, ix, hx, hwt, q66, h1, hfe', q103, hu']
        exact fin _ _ (le_nxt (le_nxt hm)) hu rfl rfl rfl rfl rfl rfl rfl rfl rfl
    · have hu' : m.cells < usedI g := by omega
      have hb := bad (by simp [hu])
      by_cases hfe : g.frames.length = 0
      · have hbe : g.base = -1 := by
          by_cases b : g.base = -1
          · exact b
          · exact absurd ⟨hfe, b⟩ h2
        have hfe' : (g.frames.length = 0) = True := eq_true hfe
        simp [-List.length_eq_zero_iff, b79_eq, hc, ix, hx, hwt, q66, h1, hfe', eq_true hbe, q103, hu']
        exact Gv.bool (le_nxt (le_nxt hm)) hb.symm
      · have hfe' : (g.frames.length = 0) = False := eq_false hfe
        simp [-List.length_eq_zero_iff, b79_eq, hc, ix, hx, hwt, q66, h1, hfe', q103, hu']
        exact Gv.bool (le_nxt (le_nxt hm)) hb.symm
end Go.Ai
set_option linter.unusedSimpArgs false
set_option linter.unusedVariables false
namespace Go.Ai
variable {mt : Nat → Nat → Option Nat}
attribute [local simp] cnd_ite gS_ite
def liveT (l : List GTwin) : List GTwin := l.filter (fun t => decide (t.page = -1) && !t.left.dead)
def alive0 (m : GMach) : Int := framesN m + (liveT m.twins).length
/-- From a call on, by who called: so many that have not returned, all but the first with room. -/
def walkM (m : GMach) : Nat → Bool → Pl → Bool → Bool
  | f, _, _, false => decide (f = 0)
  | 0, _, _, true => false
  | f + 1, first, x, true => if (callAtI m x).dead = true ∨ (first = false ∧ (callAtI m x).stack.length = 6) then false else walkM m f false (callerI m x).1 (callerI m x).2.1
def chainedI (m : GMach) : Bool := walkM m (alive0 m).toNat true (topI m).1 (topI m).2
theorem framesN_nn (m : GMach) : 0 ≤ framesN m := by
  unfold framesN
  induction m.pages with
  | nil => simp
  | cons g gs ih => simp; omega
theorem framesN_le (m : GMach) (h : ShM m) : framesN m ≤ 4398046511104 := by
  have h1 := h.pg
  have key : ∀ l : List GPage, (∀ g ∈ l, g.frames.length ≤ 2097152) → (l.map (fun g => (g.frames.length : Int))).sum ≤ l.length * 2097152 := by
    intro l
    induction l with
    | nil => intro _; simp
    | cons g gs ih =>
      intro hg
      have := ih (fun x hx => hg x (List.mem_cons_of_mem _ hx))
      have := hg g (List.mem_cons_self ..)
      simp only [List.map_cons, List.sum_cons, List.length_cons]
      omega
  have := key m.pages (fun g hg => (h.fr g hg).1)
  unfold framesN
  omega
theorem m_80 (m : GMach) (h : ShM m) : Q mt 80 [aMach m] (.bool (chainedI m)) := by
  have htw := h.tw
  have q105 := m_105 (mt := mt) m h
  have q52 := m_52 (mt := mt) m h
  unfold Q at q105 q52
  have f0 := framesN_nn m
  have f1 := framesN_le m h
  refine Q.of rfl (fun k => ?_)
  rw [run_evS AP_80 _ _ rfl]
  simp [c_80, q105]
  -- the walk
  have walk : ∀ (f : Nat) (first : Bool) (x : Pl) (some' : Bool) (n : Nat), f ≤ 8796093022208 → (some' = true → PlOk m x) → k ≤ n → ∀ S : List KF, (∀ fr n', k ≤ n' → fr 2 = .bool false → Gv k (.bool false) (unw AP mt .ret fr ⟨n', noObj⟩ S)) → (∀ fr (f' : Nat) n' b, k ≤ n' → fr 3 = vi f' → b = decide (f' = 0) → Gv k (.bool b) (unw AP mt (.exit 2) fr ⟨n', noObj⟩ S)) →
      Gv k (.bool (walkM m f first x some')) (evS AP mt (.loop l_80_1) (upd (upd (upd (upd (upd fr0 8 (.bool first)) 7 (.bool some')) 6 (.pbox [vi x.1, vi x.2])) 3 (vi f)) 1 (.pbox [vi m.cells, lPage m.pages, lInt m.order, vi m.now, lTwin m.twins, vi m.born, lVal m.said, vi m.code])) ⟨n, noObj⟩ S) := by
    intro f
    induction f with
    | zero =>
      intro first x some' n hf hx hn S hR hE
      rw [S_loop, u_80_1]
      cases some' with
      | false =>
        simp [b_80_1, walkM]
        exact hE _ 0 _ _ hn (by simp) (by simp)
      | true =>
        have q := m_53 (mt := mt) m h x (hx rfl)
        unfold Q at q
        have hw0 : IntKind.i64.wrap (-1) = -1 := wrap_id (by omega) (by omega)
        simp [b_80_1, walkM, q, hw0]
        exact hR _ _ (le_nxt hn) (by simp)
    | succ f ih =>
      intro first x some' n hf hx hn S hR hE
      rw [S_loop, u_80_1]
      cases some' with
      | false =>
        simp [b_80_1, walkM]
        exact hE _ (f + 1) _ _ hn (by simp) (by simp)
      | true =>
        have hx' := hx rfl
        have q := m_53 (mt := mt) m h x hx'
        have q59 := m_59 (mt := mt) m h x hx'
        unfold Q at q q59
        have hw : IntKind.i64.wrap (((f + 1 : Nat) : Int) - 1) = f := by rw [wrap_id (by omega) (by omega)]; omega
        have hnn : ¬ ((f : Int) < 0) := by omega
        have hih := fun n' hn' => ih false (callerI m x).1 (callerI m x).2.1 n' (by omega) (caller_ok hx') hn' S hR hE
        have hwr : IntKind.i64.wrap (f : Int) = f := wrap_id (by omega) (by omega)
        cases hd : (callAtI m x).dead
        · have hst : ((callAtI m x).stack.length : Int) = 6 ↔ (callAtI m x).stack.length = 6 := by omega
          cases first with
          | true =>
            simp [b_80_1, walkM, q, hw, hwr, hnn, hd, q59]
            exact hih _ (le_nxt (le_nxt hn))
          | false =>
            by_cases h6 : (callAtI m x).stack.length = 6
            · simp [b_80_1, walkM, q, hw, hwr, hnn, hd, h6]
              exact hR _ _ (le_nxt hn) (by simp)
            · have h6' : ¬ ((callAtI m x).stack.length : Int) = 6 := by omega
              simp [b_80_1, walkM, q, hw, hwr, hnn, hd, h6, h6', q59]
              exact hih _ (le_nxt (le_nxt hn))
        · simp [b_80_1, walkM, q, hw, hwr, hnn, hd]
          exact hR _ _ (le_nxt hn) (by simp)
  refine loop_for (Gv k (.bool (chainedI m))) m.twins.length (fun i (s : Int) => upd (upd (upd (upd (upd fr0 15 (vi i)) 14 (vi m.twins.length)) 13 (lTwin m.twins)) 3 (vi s)) 1 (.pbox [vi m.cells, lPage m.pages, lInt m.order, vi m.now, lTwin m.twins, vi m.born, lVal m.said, vi m.code])) (fun i s G => k ≤ G.next ∧ G.obj = noObj ∧ s = framesN m + (liveT (m.twins.take i)).length) (fun _ _ _ => u_80_0) ?_ ?_ m.twins.length 0 (framesN m) ⟨nxt AP mt 105 [aMach m] k, noObj⟩ (by omega) ⟨le_nxt (Nat.le_refl _), rfl, by simp [liveT]⟩
  · rintro s ⟨n, g⟩ ⟨hm, rfl, hs⟩
    dsimp only at hm
    rw [List.take_length] at hs
    have hs' : s = (((alive0 m).toNat : Nat) : Int) := by unfold alive0; omega
    have hle : (liveT m.twins).length ≤ m.twins.length := List.length_filter_le _ _
    have hle2 : (alive0 m).toNat ≤ 8796093022208 := by unfold alive0; omega
    have hcI : chainedI m = walkM m (alive0 m).toNat true (topI m).1 (topI m).2 := rfl
    generalize (alive0 m).toNat = a at *
    subst hs'
    rw [hcI]
    simp [b_80_0, q52]
    have := walk a true (topI m).1 (topI m).2 (nxt AP mt 52 [aMach m] n) hle2 (fun e => top_ok e) (le_nxt hm)
    refine this _ ?_ ?_
    · intro fr n' hn' h2
      simp [h2]
      exact Gv.bool hn' rfl
    · intro fr f' n' b hn' h3 hb
      simp [h3]
      exact Gv.bool hn' hb.symm
  · rintro i s ⟨n, g⟩ hi ⟨hm, rfl, hs⟩ next
    dsimp only at hm
    have hwr : IntKind.i64.wrap ((i : Int) + 1) = (i : Int) + 1 := wrap_id (by omega) (by omega)
    have hc : (i : Int) < m.twins.length := by omega
    obtain ⟨t, hx⟩ : ∃ t, m.twins[i]? = some t := ⟨_, List.getElem?_eq_getElem hi⟩
    have ix := fun g => idx_ok (g := g) (k := .i64) (w_Twin m.twins) (show (0:Int) ≤ i by omega) (by simpa using hc)
    have hle : (liveT (m.twins.take i)).length ≤ i := Nat.le_trans (List.length_filter_le _ _) (by simp; omega)
    have hws : IntKind.i64.wrap (s + 1) = s + 1 := wrap_id (by omega) (by omega)
    have ht : m.twins.take (i + 1) = m.twins.take i ++ [t] := by rw [List.take_add_one, hx]; rfl
    by_cases h1 : t.page = -1
    · cases h2 : t.left.dead
      · simp [b_80_0, hc, ix, hx, h1, h2, hws, hwr]
        simpa using next (s + 1) ⟨n, noObj⟩ ⟨hm, rfl, by rw [ht, hs]; simp [liveT, h1, h2]; omega⟩
      · simp [b_80_0, hc, ix, hx, h1, h2, hwr]
        simpa using next s ⟨n, noObj⟩ ⟨hm, rfl, by rw [ht, hs]; simp [liveT, h1, h2]⟩
    · simp [b_80_0, hc, ix, hx, h1, hwr]
      simpa using next s ⟨n, noObj⟩ ⟨hm, rfl, by rw [ht, hs]; simp [liveT, h1]⟩
def roomsOkI (r c : Int) : Bool := inR r 1 4 && inR c 14 60
theorem m_46 (r c : Int) : Q mt 46 [vi r, vi c] (.bool (roomsOkI r c)) := by
  have q66 := fun a b c => r_66 (mt := mt) a b c
  unfold Q at q66
  refine Q.of rfl (fun k => ?_)
  rw [run_evS AP_46 _ _ rfl]
  unfold roomsOkI
  cases h1 : inR r 1 4
  · simp [c_46, q66, h1]
    exact Gv.bool (le_nxt (Nat.le_refl _)) rfl
  · simp [c_46, q66, h1]
    exact Gv.bool (le_nxt (le_nxt (Nat.le_refl _))) rfl
def toldM (p : GProg) (m : GMach) : Bool := inR m.born 1 30 && (m.said.all (fun v => valOk v p.length) && (inR m.code 0 3 && decide ((m.code = 1) ↔ (m.now = -1))))
def machOkI (p : GProg) (m : GMach) : Bool := progOk p && (roomsOkI m.pages.length m.cells && (orderedI m && (toldM p m && (decide ((m.twins.length : Int) ≤ m.born) && (shapedI p m && chainedI m)))))
theorem m_51 (p : GProg) (m : GMach) (hP : ShP p) (h : ShM m) : Q mt 51 [aProg p, aMach m] (.bool (machOkI p m)) := by
  have q65 := m_65 (mt := mt) p hP
  have q46 := m_46 (mt := mt) m.pages.length m.cells
  have q78 := m_78 (mt := mt) m h
  have q67 := m_67 (mt := mt) p ⟨[], m.now, m.born, m.said, m.code⟩ hP.l h.sd
  have q79 := m_79 (mt := mt) p m hP h
  have q80 := m_80 (mt := mt) m h
  unfold Q at q65 q46 q78 q67 q79 q80
  refine Q.of rfl (fun k => ?_)
  rw [run_evS AP_51 _ _ rfl]
  unfold machOkI
  cases h1 : progOk p
  · simp [c_51, q65, h1]
    exact Gv.bool (by repeat (first | exact Nat.le_refl _ | apply le_nxt)) rfl
  cases h2 : roomsOkI m.pages.length m.cells
  · simp [c_51, q65, h1, q46, h2]
    exact Gv.bool (by repeat (first | exact Nat.le_refl _ | apply le_nxt)) rfl
  cases h3 : orderedI m
  · simp [c_51, q65, h1, q46, h2, q78, h3]
    exact Gv.bool (by repeat (first | exact Nat.le_refl _ | apply le_nxt)) rfl
  have et : toldOk p ⟨[], m.now, m.born, m.said, m.code⟩ = toldM p m := rfl
  rw [et] at q67
  cases h4 : toldM p m
  · simp [c_51, q65, h1, q46, h2, q78, h3, q67, h4]
    exact Gv.bool (by repeat (first | exact Nat.le_refl _ | apply le_nxt)) rfl
  by_cases h5 : (m.twins.length : Int) ≤ m.born
  rotate_left
  · have h5' : m.born < (m.twins.length : Int) := by omega
    simp [c_51, q65, h1, q46, h2, q78, h3, q67, h4, h5, h5']
    exact Gv.bool (by repeat (first | exact Nat.le_refl _ | apply le_nxt)) rfl
  have h5' : ¬ m.born < (m.twins.length : Int) := by omega
  cases h6 : shapedI p m
  · simp [c_51, q65, h1, q46, h2, q78, h3, q67, h4, h5, h5', q79, h6]
    exact Gv.bool (by repeat (first | exact Nat.le_refl _ | apply le_nxt)) rfl
  · simp [c_51, q65, h1, q46, h2, q78, h3, q67, h4, h5, h5', q79, h6, q80]
    exact Gv.bool (by repeat (first | exact Nat.le_refl _ | apply le_nxt)) rfl
end Go.Ai
set_option linter.unusedSimpArgs false
set_option linter.unusedVariables false
namespace Go.Ai
attribute [local simp] cnd_ite gS_ite callBy_whole
section
variable {g g' : Heap'} {ow ow' : Ow}
theorem RowR.get {p : List Nat} {i : Nat} {row' row : List AVal} {c0 : Nat} (h : RowR g ow p i c0 row' row) {c : Nat} {a : AVal} (ha : row'[c]? = some a) : ∃ x, row[c]? = some x ∧ Own g ow (p ++ [i, c0 + c]) a x := by
  rw [RowR.iff] at h
  have hc := (List.getElem?_eq_some_iff.1 ha).1
  exact ⟨row[c]'(by omega), List.getElem?_eq_getElem _, h.2 c a _ ha (List.getElem?_eq_getElem _)⟩
/-- One cell of a row, or what it leads to, is another one. -/
theorem Own.cell {p : List Nat} {id n i c : Nat} {es es' : Obj'} {row row' : List AVal} {a' x' : AVal} (h : Own g ow p (.list es') (.slice id 0 n)) (he : g id = some es) (hr' : es'[i]? = some row') (hr : es[i]? = some row) (hc : c < row'.length)
    (hg' : g' id = some (es.set i (row.set c x'))) (hw' : ow' id = some p) (hx : Own g' ow' (p ++ [i, c]) a' x') (hk : Keep g ow g' ow' (fun _ q => p <+: q ∧ q ≠ p ∧ ¬ (p ++ [i, c] <+: q))) : Own g' ow' p (.list (es'.set i (row'.set c a'))) (.slice id 0 n) := by
  have hil := (List.getElem?_eq_some_iff.1 hr').1
  rcases h.list_inv with ⟨_, h2⟩ | ⟨hne, id', es0, h1, h2, h3, h4, h5⟩
  · cases h2
  have h1' := h1
  injection h1 with h1 _ h1n
  subst h1
  rw [he] at h3
  injection h3 with h3
  subst h3
  obtain ⟨row0, r1, r2⟩ := h5 i row' hr'
  rw [hr] at r1
  injection r1 with r1
  subst r1
  have r2' := RowR.iff.1 r2
  refine Own.setRow h he hil hg' hw' ?_ (hk.mono (fun j q _ hq => ?_))
  · rw [RowR.iff]
    refine ⟨by simp [r2'.1], fun k b y hb hy => ?_⟩
    by_cases hkc : k = c
    · subst hkc
      rw [List.getElem?_set_self (by omega)] at hb
      rw [List.getElem?_set_self (by omega)] at hy
      injection hb with hb
      injection hy with hy
      subst hb hy
      rw [Nat.zero_add]
      exact hx
    · rw [List.getElem?_set_ne (Ne.symm hkc)] at hb hy
      have := r2'.2 k b y hb hy
      rw [Nat.zero_add] at this ⊢
      refine this.mono (hk.mono (fun j q _ hq => ⟨List.IsPrefix.trans (List.prefix_append _ _) hq, fun e => ?_, fun e => ?_⟩))
      · have := hq.length_le; rw [e] at this; simp at this; omega
      · exact hkc (pre_c hq e)
  · obtain ⟨k, hk1, hk2⟩ := hq
    refine ⟨List.IsPrefix.trans (List.prefix_append _ _) hk2, fun e => ?_, fun e => ?_⟩
    · have := hk2.length_le; rw [e] at this; simp at this; omega
    · have e2 : p ++ [i] <+: q := List.IsPrefix.trans (by rw [show p ++ [i, c] = (p ++ [i]) ++ [c] by simp]; exact List.prefix_append _ _) e
      obtain ⟨t1, rfl⟩ := hk2
      obtain ⟨t2, e3⟩ := e2
      simp at e3
      exact hk1 e3.1.symm
/-- A list in memory. -/
theorem Own.obj {p : List Nat} {es' : Obj'} {v : AVal} (h : Own g ow p (.list es') v) (hne : es' ≠ []) : ∃ id es, v = .slice id 0 es'.length ∧ ow id = some p ∧ g id = some es ∧ es.length = es'.length ∧ ∀ (i : Nat) (row' : List AVal), es'[i]? = some row' → ∃ row, es[i]? = some row ∧ RowR g ow p i 0 row' row := by
  rcases h.list_inv with ⟨e, _⟩ | ⟨_, h⟩
  · exact absurd e hne
  · exact h
/-- A row put behind a list. -/
def PutQ (ow : Ow) (q : List Nat) (es' : Obj') (row : List AVal) (n : Nat) (g : Heap') (v : AVal) (G : AG) : Prop := ∃ g2, G = ⟨n + 1, g2⟩ ∧ v = .slice n 0 (es'.length + 1) ∧ (∀ j, j < n → ow j ≠ some q → g2 j = g j) ∧ (∃ es, g2 n = some (es ++ [row])) ∧
  ∀ (g3 : Heap') (ow3 : Ow) row', g3 n = g2 n → ow3 n = some q → (∀ j s, ow j = some s → q <+: s → s ≠ q → g3 j = g j ∧ ow3 j = some s) → RowR g3 ow3 q es'.length 0 row' row → Own g3 ow3 q (.list (es' ++ [row'])) (.slice n 0 (es'.length + 1))
theorem own_put {q : List Nat} {es' : Obj'} {v : AVal} {n : Nat} (h : Own g ow q (.list es') v) (f : ∀ id s, ow id = some s → id < n) (row : List AVal) {z bytes : Nat} (hz : row.length = z) (hzs : ∀ e ∈ es', e.length = z) (hl : (es'.length + 1) * bytes ≤ maxA) : Rn (appV z bytes v (.list [row]) ⟨n, g⟩) (PutQ ow q es' row n g) := by
  have hsrc : srcOf g (.list [row]) = some [row] := rfl
  have hz1 : ∀ e ∈ [row], e.length = z := by intro e he; simp at he; subst he; exact hz
  by_cases hne : es' = []
  · subst hne
    rcases h.list_inv with ⟨_, rfl⟩ | ⟨hne, _⟩
    rotate_left
    · exact absurd rfl hne
    simp only [List.length_nil, Nat.zero_add] at hl ⊢
    have hl' : [row].length * bytes ≤ maxA := by simpa using hl
    refine ⟨.slice n 0 1, ⟨n + 1, updO g n (some [row])⟩, ?_, _, rfl, rfl, fun j hj _ => by simp only [updO]; rw [if_neg (by omega)], ⟨[], by simp [updO]⟩, fun g3 ow3 row' e1 e2 hk hr => ?_⟩
    · simp only [appV, hsrc, Option.bind_some, if_pos hz1, if_neg (by simp : ¬ [row] = []), List.length_singleton]
      exact if_pos hl
    · refine Own.mk (es := [row]) (by simp) (by simp) e2 (by rw [e1]; simp [updO]) (by simp) (fun i r1 r2 h1 h2 => ?_)
      cases i with
      | zero => simp at h1 h2; subst h1 h2; exact hr
      | succ i => simp at h1
  · obtain ⟨id, es, rfl, hw, hg, hlen, hrows⟩ := h.obj hne
    have hid := f id q hw
    have hes : ∀ e ∈ es, e.length = z := by
      intro e he
      obtain ⟨i, hi, rfl⟩ := List.getElem_of_mem he
      obtain ⟨row2, w1, w2⟩ := hrows i (es'[i]'(by omega)) (List.getElem?_eq_getElem _)
      rw [List.getElem?_eq_getElem hi] at w1
      injection w1 with w1
      rw [w1, (RowR.iff.1 w2).1]
      exact hzs _ (List.getElem_mem _)
    have hne2 : es ≠ [] := by intro e; subst e; simp at hlen; exact hne (List.length_eq_zero_iff.1 hlen.symm)
    have hc : es.length = es'.length ∧ es ≠ [] ∧ (∀ e ∈ es, e.length = z) ∧ (es'.length + [row].length) * bytes ≤ maxA := ⟨hlen, hne2, hes, by simpa using hl⟩
    refine ⟨.slice n 0 (es'.length + 1), ⟨n + 1, updO (updO g id none) n (some (es ++ [row]))⟩, ?_, _, rfl, rfl, fun j hj hjw => ?_, ⟨es, by simp [updO]⟩, fun g3 ow3 row' e1 e2 hk hr => ?_⟩
    · simp only [appV, hsrc, Option.bind_some, if_pos hz1, hg]
      rw [if_pos hc]
      simp
    · simp only [updO]
      rw [if_neg (by omega), if_neg (fun e => by rw [e] at hjw; exact hjw hw)]
    · refine Own.mk (es := es ++ [row]) (by simp) (by simp) e2 (by rw [e1]; simp [updO]) (by simp [hlen]) (fun i r1 r2 h1 h2 => ?_)
      by_cases hi : i < es'.length
      · rw [List.getElem?_append_left hi] at h1
        rw [List.getElem?_append_left (by omega)] at h2
        obtain ⟨row2, w1, w2⟩ := hrows i r1 h1
        rw [h2] at w1
        injection w1 with w1
        subst w1
        refine w2.mono (fun j s hj hp => ?_)
        have hne3 : s ≠ q := by
          intro e
          have := hp.length_le
          rw [e] at this
          simp at this
          omega
        obtain ⟨k1, k2⟩ := hk j s hj (List.IsPrefix.trans (List.prefix_append _ _) hp) hne3
        exact ⟨fun es he => by rw [k1]; exact he, k2⟩
      · rw [List.getElem?_append_right (by omega)] at h1
        rw [List.getElem?_append_right (by omega)] at h2
        have : i = es'.length := by
          have := (List.getElem?_eq_some_iff.1 h1).1
          simp at this
          omega
        subst this
        simp at h1
        rw [hlen] at h2
        simp at h2
        subst h1 h2
        exact hr
end
end Go.Ai
