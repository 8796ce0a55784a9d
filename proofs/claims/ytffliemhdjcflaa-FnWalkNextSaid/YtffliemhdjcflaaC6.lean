/- Whether lowered code fits the program: asked by program. Operations. Whether lowered code fits the program: regions, code, functions. -/
import Derived.Test.YtffliemhdjcflaaC5
set_option linter.unusedVariables false
set_option linter.unusedSimpArgs false
namespace Go.Ai

/-- Constants. -/
def vc : AVal → Value → Bool
  | .int k n, .int k' n' => decide (k = k') && decide (n = n')
  | .bool b, .bool b' => b == b'
  | .str s, .string s' => decide (s = s')
  | .nilp, .pointer none => true
  | .nils, .slice _ 0 0 => true
  | .nilf, .nilFunc => true
  | .nili, .nilIface => true
  | .tuple [], .tuple a => a.size == 0
  | _, _ => false
def cellsOk (z : List AVal) (arr : Array Value) : Bool := z.length == arr.size && (List.zip z arr.toList).all fun p => vc p.1 p.2 && p.2.oneCell'
def vcA : AVal → Value → Bool
  | .agg cs, .agg arr => cellsOk cs arr
  | v, V => vc v V
section
variable {M : SM}
theorem vc_ok {v : AVal} {V : Value} (h : vc v V = true) (C : Cx) : VR M C v V := by
  unfold vc at h
  split at h <;> simp only [Bool.and_eq_true, decide_eq_true_eq, beq_iff_eq, Bool.false_eq_true] at h
  · rw [h.1, h.2]; exact .int _ _
  · rw [h]; exact .bool _
  · rw [h]; exact .str _
  · exact .nilp
  · exact .nils _
  · exact .nilf
  · exact .nili
  · exact .tuple [] _ (by simp [h]) (by simp)
theorem cells_cr {z : List AVal} {arr : Array Value} (h : cellsOk z arr = true) : z.length = arr.size ∧ ∀ C (i : Nat) x y, z[i]? = some x → arr[i]? = some y → CR M C x y := by
  simp only [cellsOk, Bool.and_eq_true, beq_iff_eq, List.all_eq_true] at h
  refine ⟨h.1, fun C i x y hx hy => ?_⟩
  have hm : (x, y) ∈ List.zip z arr.toList := by
    apply List.mem_of_getElem? (i := i)
    rw [List.getElem?_zip_eq_some]
    exact ⟨hx, by simpa using hy⟩
  have := h.2 _ hm
  exact ⟨vc_ok this.1 C, this.2⟩
theorem cells_ar {z : List AVal} {arr : Array Value} (h : cellsOk z arr = true) (C : Cx) : ArR M C z arr := ⟨(cells_cr (M := M) h).1, (cells_cr h).2 C⟩
theorem cells_cs {z : List AVal} {arr : Array Value} (h : cellsOk z arr = true) (C : Cx) : CsR M C z arr 0 ∧ z.length = arr.size := by
  obtain ⟨h1, h2⟩ := cells_cr (M := M) h
  exact ⟨⟨by omega, fun c x y hx hy => h2 C c x y hx (by simpa using hy)⟩, h1⟩
theorem vcA_ok {v : AVal} {V : Value} (h : vcA v V = true) (C : Cx) : VR M C v V := by
  unfold vcA at h
  split at h
  · exact (cells_ar h C).vr
  · exact vc_ok h C
end
variable (M : SM)
def opR : Opd → Operand → Bool
  | .t n, .tmp m => n == m
  | .c v, .const V => vcA v V
  | .c (.func f []), .func k => M.fm f == some k
  | _, _ => false
def all2 {α β : Type} (r : α → β → Bool) : List α → List β → Bool
  | [], [] => true
  | x :: xs, y :: ys => r x y && all2 r xs ys
  | _, _ => false
def opRo : Option Opd → Option Operand → Bool
  | none, none => true
  | some x, some X => opR M x X
  | _, _ => false
def elemOf (t : TypeId) : Option TypeId := match M.P.underlying t with | some (.slice e) => some e | _ => none
def szOf (t : TypeId) : Option Nat := (M.P.info? t).map (·.size)
def zeroOf (t : TypeId) : Option Value := (M.P.info? t).bind (·.zero)
def fldsOf (t : TypeId) : Option (Array Field) := match M.P.underlying t with | some (.struct fs) => some fs | _ => none
def ldT (k : Option Nat) (t : TypeId) : Bool := match M.P.underlying t with
  | none => false
  | some d => match k with
    | none => !aggD d
    | some n => aggD d && szOf M t == some n
def partM (fs : Array Field) (p : Nat × Nat × Opd) (q : Nat × Operand) : Bool := opR M p.2.2 q.2 && match fs[q.1]? with
  | some f => f.offset == p.1 && szOf M f.type == some p.2.1
  | none => false
def flatF (P : Program) : List Field → Nat → List Bool → Bool
  | [], _, [] => true
  | f :: fs, o, b :: bs => f.name != "_" && f.offset == o && (match P.underlying f.type with | some (.int _) => b | some .bool => !b | _ => false) && flatF P fs (o + 1) bs
  | _, _, _ => false
def eqM (t : TypeId) (k : EqK) : Bool := match M.P.underlying t, k with
  | some .bool, .b => true
  | some (.func _ _ _), .f => true
  | some (.struct fs), .st ks => !M.P.stoodInHeld t && !M.P.eqGuardType M.P.depth t && flatF M.P fs.toList 0 ks
  | _, _ => false
def isIntT (t : TypeId) : Bool := match M.P.underlying t with | some (.int _) => true | _ => false
/-- A method with a pointer receiver. -/
def methF (P : Program) (t : TypeId) (nm : String) : Option FuncId := match P.info? t with
  | some i => match i.methods.find? (·.name == nm) with
    | some m => if m.path.size == 0 then match m.func with
      | some (k, true) => (match P.underlying t with | some (.pointer _) => some k | _ => none)
      | _ => none else none
    | none => none
  | none => none
def methB (P : Program) (t : TypeId) (nm : String) : Bool := (methF P t nm).isSome
theorem methF_ok {P : Program} {t : TypeId} {nm : String} {k : FuncId} (h : methF P t nm = some k) : PtrMeth P t nm k := by
  unfold methF at h
  split at h
  · rename_i i hi
    split at h
    · rename_i m hm
      split at h
      · rename_i hp
        split at h
        · rename_i k' hk
          split at h
          · rename_i e he
            injection h with h
            subst h
            exact ⟨i, m, e, hi, hm, by simpa using hp, hk, he⟩
          · cases h
        · cases h
      · cases h
    · cases h
  · cases h
def chkP : AOp → Op → Bool
  | .mv x, .move X => opR M x X
  | .mv x, .assign X => opR M x X
  | .pick c a b, .pick C A B => opR M c C && opR M a A && opR M b B
  | .build z ps, .build t parts => match fldsOf M t, zeroOf M t with
    | some fs, some (.agg zv) => cellsOk z zv && fs.all (fun f => (szOf M f.type).isSome) && ps.all (fun p => decide (p.1 + p.2.1 ≤ z.length)) && all2 (partM M fs) ps parts.toList
    | _, _ => false
  | .load k x, .load t X => opR M x X && ldT M k t
  | .nilck x, .nilCheck X => opR M x X
  | .bin op x y, .binOp op' t X Y t' => decide (op = op') && opR M x X && opR M y Y
  | .eqk k neg x y, .binOp op t X Y t' => decide (op = if neg then .neq else .eql) && opR M x X && opR M y Y && eqM M t k
  | .nt x, .unOp op t X => decide (op = .not) && opR M x X
  | .neg x, .unOp op t X => decide (op = .neg) && opR M x X
  | .fld off x, .fieldAddr s X i => opR M x X && match fldsOf M s with
    | some fs => (match fs[i]? with | some f => f.offset == off && (match szOf M f.type with | some n => n != 0 | none => false) | none => false)
    | none => false
  | .idx z x i, .indexAddr t X I => opR M x X && opR M i I && match elemOf M t with | some e => szOf M e == some z | none => false
  | .ext x i, .extract X i' => opR M x X && i == i'
  | .fieldv off k x, .field s X i => opR M x X && match fldsOf M s with
    | some fs => (match fs[i]? with | some f => f.offset == off && ldT M k f.type | none => false)
    | none => false
  | .len x, .call ⟨.builtin .len, ⟨[X]⟩, ⟨[t]⟩⟩ => opR M x X && (elemOf M t).isSome
  | .mkf f caps, .makeFunc (.func k) fst Caps => M.fm f == some k && fst.size == 0 && all2 (opR M) caps Caps.toList
  | .mki tag x, .makeInterface t X => opR M x X && M.tm tag == some t && M.P.concrete t
  | .sl z x lo hi, .slice t X Lo Hi none => opR M x X && opRo M lo Lo && opRo M hi Hi && match elemOf M t with | some e => szOf M e == some z | none => false
  | .sl0 x, .slice t X none (some (.const (.int _ n))) (some (.const (.int _ n'))) => opR M x X && decide (n = 0) && decide (n' = 0) && match elemOf M t with | some e => (szOf M e).isSome | none => false
  | .isnil neg x, .binOp op t X (.const (.slice none _ _)) _ => !neg && decide (op = .eql) && opR M x X && (elemOf M t).isSome
  | .mkm x, .makeFunc (.method nm) ⟨[X]⟩ ⟨[]⟩ => opR M x X && M.tl.all (fun t => methB M.P t nm)
  | .conv k x, .convert s d X => opR M x X && isIntT M s && match M.P.underlying d with | some (.int k') => decide (k = k') | _ => false
  | .mxn mx [x, y], .call ⟨.builtin b, ⟨[X, Y]⟩, _⟩ => opR M x X && opR M y Y && (match b with | .max => mx | .min => !mx | _ => false)
  | _, _ => false
def dstOk (bx : List Nat) (N : Nat) : Option Tmp → Bool
  | none => true
  | some t => decide (t < N) && !bx.contains t
def boxOk (bx : List Nat) (N : Nat) : Option Tmp → Bool
  | none => true
  | some t => decide (t < N) && bx.contains t
def zeroR (z : List AVal) (t : TypeId) : Bool := match zeroOf M t with | some zv => cellsOk z zv.cells | none => false
def elT (z bytes : Nat) (t e : TypeId) : Bool := match M.P.info? e with
  | some i => (match i.zero with | some zv => i.size == z && i.bytes == bytes && zv.cells.size == z | none => false) && z != 0 && bytes != 0
  | none => false
def litT (z len : Nat) (t : TypeId) (ps : List Opd) (parts : List (Nat × Operand)) : Bool := match elemOf M t with
  | some e => szOf M e == some z && (zeroOf M e).isSome && z != 0 && decide (len * z ≤ 16777216) && ps.length == len && parts.length == len && all2 (fun (p : Opd × Nat) (q : Nat × Operand) => q.1 == p.2 && opR M p.1 q.2) ps.zipIdx parts
  | none => false
def chkA (bx : List Nat) (N : Nat) (dst : Option Tmp) : AOp → Op → Bool
  | .boxP x, .box t X => opR M x X && boxOk bx N dst
  | .allocP z, .alloc t => zeroR M z t && boxOk bx N dst
  | .boxH x, .box t X => opR M x X && dstOk bx N dst
  | .allocH z, .alloc t => zeroR M z t && z.length != 0 && dstOk bx N dst
  | .store n x v, .store t X V => opR M x X && opR M v V && szOf M t == some n && dst.isNone
  | .app z bytes x y, .call ⟨.builtin .append, ⟨[X, Y]⟩, ⟨[t, t']⟩⟩ => opR M x X && opR M y Y && t == t' && (match elemOf M t with | some e => elT M z bytes t e | none => false) && dstOk bx N dst
  | .litI z ps, .buildSlice t len parts => litT M z len t ps parts.toList && dstOk bx N dst
  | .litO z ps, .buildSlice t len parts => litT M z len t ps parts.toList && dstOk bx N dst
  | .mks z bytes n, .makeSlice t X Y => opR M n X && opR M n Y && (match elemOf M t with | some e => elT M z.length bytes t e && zeroR M z e | none => false) && dstOk bx N dst
  | .cpy z x y, .call ⟨.builtin .copy, ⟨[X, Y]⟩, ⟨[t, t']⟩⟩ => opR M x X && opR M y Y && (match elemOf M t with | some e => szOf M e == some z && z != 0 | none => false) && dstOk bx N dst
  | .call m f as, .call ⟨.value (.func k), As, _⟩ => M.fm f == some k && all2 (opR M) as As.toList && dstOk bx N dst
  | .callv m x as, .call ⟨.value X, As, _⟩ => opR M x X && all2 (opR M) as As.toList && dstOk bx N dst
  | .inv x name as, .call ⟨.invoke X nm, As, _⟩ => opR M x X && decide (M.nm name = some nm) && all2 (opR M) as As.toList && dstOk bx N dst
  | o, op => chkP M o op && dstOk bx N dst
section
variable {M : SM}
theorem opR_ok {x : Opd} {X : Operand} (h : opR M x X = true) : OpR M x X := by
  unfold opR at h
  split at h <;> try simp only [beq_iff_eq, Bool.false_eq_true] at h
  · subst h; exact .t _
  · exact .c _ _ (vcA_ok h)
  · exact .f _ _ h
theorem all2_ok {α β : Type} {r : α → β → Bool} : ∀ {xs : List α} {ys : List β}, all2 r xs ys = true → xs.length = ys.length ∧ ∀ (i : Nat) x y, xs[i]? = some x → ys[i]? = some y → r x y = true := by
  intro xs
  induction xs with
  | nil => intro ys h; cases ys with
    | nil => simp
    | cons y ys => cases h
  | cons x xs ih =>
    intro ys h
    cases ys with
    | nil => cases h
    | cons y ys =>
      simp only [all2, Bool.and_eq_true] at h
      obtain ⟨h1, h2⟩ := ih h.2
      refine ⟨by simp [h1], fun i a b ha hb => ?_⟩
      cases i with
      | zero => simp at ha hb; rw [← ha, ← hb]; exact h.1
      | succ i => exact h2 i a b (by simpa using ha) (by simpa using hb)
theorem opsR_ok {xs : List Opd} {Xs : Array Operand} (h : all2 (opR M) xs Xs.toList = true) : OpsR M xs Xs := by
  obtain ⟨h1, h2⟩ := all2_ok h
  exact ⟨by simpa using h1, fun i x X hx hX => opR_ok (h2 i x X hx (by simpa using hX))⟩
theorem opRo_ok {x : Option Opd} {X : Option Operand} (h : opRo M x X = true) : OptR M x X := by
  unfold opRo at h
  split at h
  · exact .none
  · exact .some _ _ (opR_ok h)
  · cases h
theorem elemOf_ok {t e : TypeId} (h : elemOf M t = some e) : M.P.underlying t = some (.slice e) := by
  unfold elemOf at h
  split at h
  · injection h with h; subst h; assumption
  · cases h
theorem fldsOf_ok {t : TypeId} {fs : Array Field} (h : fldsOf M t = some fs) : M.P.underlying t = some (.struct fs) := by
  unfold fldsOf at h
  split at h
  · injection h with h; subst h; assumption
  · cases h
theorem ldT_ok {k : Option Nat} {t : TypeId} (h : ldT M k t = true) : LdT M.P k t := by
  unfold ldT at h
  split at h
  · cases h
  · rename_i d hd
    cases k with
    | none => simp only [Bool.not_eq_true'] at h; exact ⟨d, hd, h⟩
    | some n => simp only [Bool.and_eq_true, beq_iff_eq] at h; exact ⟨⟨d, hd, h.1⟩, h.2⟩
theorem flatF_ok {P : Program} : ∀ {fs : List Field} {o : Nat} {ks : List Bool}, flatF P fs o ks = true → FlatF P fs o ks := by
  intro fs
  induction fs with
  | nil => intro o ks h; cases ks with
    | nil => trivial
    | cons _ _ => cases h
  | cons f fs ih =>
    intro o ks h
    cases ks with
    | nil => cases h
    | cons b ks =>
      simp only [flatF, Bool.and_eq_true, bne_iff_ne, beq_iff_eq] at h
      obtain ⟨⟨⟨h1, h2⟩, h3⟩, h4⟩ := h
      refine ⟨h1, h2, ?_, ih h4⟩
      split at h3
      · rename_i k hk; rw [if_pos h3]; exact ⟨k, hk⟩
      · rename_i hk; simp only [Bool.not_eq_true'] at h3; rw [h3]; exact hk
      · cases h3
theorem eqM_ok {t : TypeId} {k : EqK} (h : eqM M t k = true) : EqM M.P t k := by
  unfold eqM at h
  split at h
  · exact .b ‹_›
  · exact .f _ _ _ ‹_›
  · rename_i fs ks hu
    simp only [Bool.and_eq_true, Bool.not_eq_true'] at h
    have hf : M.P.fieldsOf t = fs := by simp [Program.fieldsOf, hu]
    exact .st ks (by rw [hf]; exact hu) h.1.1 h.1.2 (by rw [hf]; exact flatF_ok h.2)
  · cases h
theorem dstOk_ok {bx : List Nat} {N : Nat} {dst : Option Tmp} (h : dstOk bx N dst = true) : DstOk bx N dst := by
  intro t ht
  subst ht
  simp only [dstOk, Bool.and_eq_true, decide_eq_true_eq, Bool.not_eq_true', List.contains_eq_mem, decide_eq_false_iff_not] at h
  exact h
theorem boxOk_ok {bx : List Nat} {N : Nat} {dst : Option Tmp} (h : boxOk bx N dst = true) : BoxOk bx N dst := by
  intro t ht
  subst ht
  simp only [boxOk, Bool.and_eq_true, decide_eq_true_eq, List.contains_eq_mem] at h
  exact h
theorem zeroR_ok {z : List AVal} {t : TypeId} (h : zeroR M z t = true) : ∃ zv, ZeroR M z t zv := by
  unfold zeroR at h
  split at h
  · rename_i zv hz; exact ⟨zv, hz, fun C => cells_cs h C⟩
  · cases h
theorem elT_ok {z bytes : Nat} {t e : TypeId} (ht : M.P.underlying t = some (.slice e)) (h : elT M z bytes t e = true) : ∃ zv, (M.P.info? e).bind (·.zero) = some zv ∧ ElT M.P t e z bytes zv := by
  unfold elT at h
  split at h
  · rename_i i hi
    simp only [Bool.and_eq_true, bne_iff_ne] at h
    obtain ⟨⟨h1, h2⟩, h3⟩ := h
    split at h1
    · rename_i zv hz
      simp only [Bool.and_eq_true, beq_iff_eq] at h1
      exact ⟨zv, by rw [hi]; exact hz, ht, by rw [hi]; simp [hz, h1.1.1, h1.1.2], Nat.pos_of_ne_zero h2, Nat.pos_of_ne_zero h3, h1.2⟩
    · cases h1
  · cases h
theorem litT_ok {z len : Nat} {t : TypeId} {ps : List Opd} {parts : Array (Nat × Operand)} (h : litT M z len t ps parts.toList = true) : ∃ e zv, LitT M t e z len ps parts zv := by
  unfold litT at h
  split at h
  · rename_i e he
    simp only [Bool.and_eq_true, beq_iff_eq, bne_iff_ne, decide_eq_true_eq] at h
    obtain ⟨⟨⟨⟨⟨⟨h1, h2⟩, h3⟩, h4⟩, h5⟩, h6⟩, h7⟩ := h
    obtain ⟨zv, hzv⟩ := Option.isSome_iff_exists.1 h2
    obtain ⟨_, h8⟩ := all2_ok h7
    refine ⟨e, zv, elemOf_ok he, h1, hzv, Nat.pos_of_ne_zero h3, h4, h5, by simpa using h6, fun k p q hp hq => ?_⟩
    have := h8 k (p, k) q (by simp [List.getElem?_zipIdx, hp]) (by simpa using hq)
    simp only [Bool.and_eq_true, beq_iff_eq] at this
    exact ⟨this.1, opR_ok this.2⟩
  · cases h
theorem chkP_ok {o : AOp} {op : Op} (h : chkP M o op = true) : OpP M o op := by
  unfold chkP at h
  split at h
  · exact .mv _ _ (opR_ok h)
  · exact .as _ _ (opR_ok h)
  · simp only [Bool.and_eq_true] at h; exact .pick _ _ _ _ _ _ (opR_ok h.1.1) (opR_ok h.1.2) (opR_ok h.2)
  · rename_i z ps t parts
    split at h
    · rename_i fs zv hf hz
      simp only [Bool.and_eq_true, List.all_eq_true, decide_eq_true_eq, Array.all_eq_true'] at h
      obtain ⟨⟨⟨h1, h2⟩, h3⟩, h4⟩ := h
      obtain ⟨h5, h6⟩ := all2_ok h4
      refine .build z ps t parts fs zv hz (fun C => cells_ar h1 C) (fldsOf_ok hf) (fun f hf => Option.isSome_iff_exists.1 (h2 f hf)) h3 (by simpa using h5) (fun k p q hp hq => ?_)
      have h7 := h6 k p q hp (by simpa using hq)
      obtain ⟨o, n, x⟩ := p
      obtain ⟨i, X⟩ := q
      simp only [partM, Bool.and_eq_true] at h7
      obtain ⟨h8, h9⟩ := h7
      split at h9
      · rename_i f hfi
        simp only [Bool.and_eq_true, beq_iff_eq] at h9
        exact .mk o n x i X f (opR_ok h8) hfi h9.1 h9.2
      · cases h9
    · cases h
  · simp only [Bool.and_eq_true] at h; exact .load _ _ _ _ (opR_ok h.1) (ldT_ok h.2)
  · exact .nilck _ _ (opR_ok h)
  · simp only [Bool.and_eq_true, decide_eq_true_eq] at h; obtain ⟨⟨rfl, h1⟩, h2⟩ := h; exact .bin _ _ _ _ _ _ _ (opR_ok h1) (opR_ok h2)
  · rename_i k neg x y op t X Y t'
    simp only [Bool.and_eq_true, decide_eq_true_eq] at h
    obtain ⟨⟨⟨rfl, h1⟩, h2⟩, h3⟩ := h
    cases neg
    · exact .eq _ _ _ _ _ _ _ (opR_ok h1) (opR_ok h2) (eqM_ok h3)
    · exact .ne _ _ _ _ _ _ _ (opR_ok h1) (opR_ok h2) (eqM_ok h3)
  · simp only [Bool.and_eq_true, decide_eq_true_eq] at h; obtain ⟨rfl, h1⟩ := h; exact .nt _ _ _ (opR_ok h1)
  · simp only [Bool.and_eq_true, decide_eq_true_eq] at h; obtain ⟨rfl, h1⟩ := h; exact .neg _ _ _ (opR_ok h1)
  · simp only [Bool.and_eq_true] at h
    obtain ⟨h1, h2⟩ := h
    split at h2
    · rename_i fs hfs
      split at h2
      · rename_i f hf
        simp only [Bool.and_eq_true, beq_iff_eq] at h2
        obtain ⟨h3, h4⟩ := h2
        split at h4
        · rename_i n hn
          exact .fld _ _ _ _ _ fs f (opR_ok h1) (fldsOf_ok hfs) hf h3 ⟨n, hn, by simpa using h4⟩
        · cases h4
      · cases h2
    · cases h2
  · simp only [Bool.and_eq_true] at h
    obtain ⟨⟨h1, h2⟩, h3⟩ := h
    split at h3
    · rename_i e he; exact .idx _ _ _ _ _ _ e (opR_ok h1) (opR_ok h2) (elemOf_ok he) (by simpa [szOf] using h3)
    · cases h3
  · simp only [Bool.and_eq_true, beq_iff_eq] at h; obtain ⟨h1, rfl⟩ := h; exact .ext _ _ _ (opR_ok h1)
  · simp only [Bool.and_eq_true] at h
    obtain ⟨h1, h2⟩ := h
    split at h2
    · rename_i fs hfs
      split at h2
      · rename_i f hf
        simp only [Bool.and_eq_true, beq_iff_eq] at h2
        exact .fieldv _ _ _ _ _ _ fs f (opR_ok h1) (fldsOf_ok hfs) hf h2.1 (ldT_ok h2.2)
      · cases h2
    · cases h2
  · simp only [Bool.and_eq_true] at h
    obtain ⟨h1, h2⟩ := h
    obtain ⟨e, he⟩ := Option.isSome_iff_exists.1 h2
    exact .len _ _ _ _ (opR_ok h1) ⟨e, elemOf_ok he⟩ rfl
  · rename_i f caps k fst Caps
    simp only [Bool.and_eq_true, beq_iff_eq] at h
    obtain ⟨⟨h1, h2⟩, h3⟩ := h
    have : fst = #[] := Array.eq_empty_of_size_eq_zero h2
    subst this
    obtain ⟨h4, h5⟩ := opsR_ok h3
    exact .mkf f k caps Caps h1 h4 h5
  · simp only [Bool.and_eq_true, beq_iff_eq] at h; exact .mki _ _ _ _ (opR_ok h.1.1) h.1.2 h.2
  · simp only [Bool.and_eq_true] at h
    obtain ⟨⟨⟨h1, h2⟩, h3⟩, h4⟩ := h
    split at h4
    · rename_i e he; exact .sl _ _ _ _ _ _ _ _ e (opR_ok h1) (opRo_ok h2) (opRo_ok h3) (elemOf_ok he) (by simpa [szOf] using h4)
    · cases h4
  · rename_i x t X k n k' n'
    simp only [Bool.and_eq_true, decide_eq_true_eq] at h
    obtain ⟨⟨⟨h1, rfl⟩, rfl⟩, h4⟩ := h
    split at h4
    · rename_i e he
      obtain ⟨z, hz⟩ := Option.isSome_iff_exists.1 h4
      exact .sl0 _ _ _ _ _ e (opR_ok h1) (elemOf_ok he) ⟨z, by simpa [szOf] using hz⟩
    · cases h4
  · rename_i neg x op t X n c t'
    simp only [Bool.and_eq_true, decide_eq_true_eq, Bool.not_eq_true'] at h
    obtain ⟨⟨⟨rfl, rfl⟩, h3⟩, h4⟩ := h
    obtain ⟨e, he⟩ := Option.isSome_iff_exists.1 h4
    exact .isnil _ _ _ _ _ _ e (opR_ok h3) (elemOf_ok he)
  · rename_i x nm X
    simp only [Bool.and_eq_true, List.all_eq_true] at h
    exact .mkm _ _ _ (opR_ok h.1) (fun t ht => by
      obtain ⟨k, hk⟩ := Option.isSome_iff_exists.1 (h.2 t ht)
      exact ⟨k, methF_ok hk⟩)
  · simp only [Bool.and_eq_true] at h
    obtain ⟨⟨h1, h2⟩, h3⟩ := h
    split at h3
    · rename_i k' hk
      simp only [decide_eq_true_eq] at h3
      subst h3
      refine .conv _ _ _ _ _ (opR_ok h1) ?_ hk
      unfold isIntT at h2
      split at h2
      · exact ⟨_, ‹_›⟩
      · cases h2
    · cases h3
  · simp only [Bool.and_eq_true] at h
    obtain ⟨⟨h1, h2⟩, h3⟩ := h
    split at h3
    · subst h3; exact .mxn _ _ _ _ _ (opR_ok h1) (opR_ok h2)
    · simp only [Bool.not_eq_true'] at h3; subst h3; exact .mnn _ _ _ _ _ (opR_ok h1) (opR_ok h2)
    · cases h3
  · cases h
theorem chkA_ok {bx : List Nat} {N : Nat} {dst : Option Tmp} {o : AOp} {op : Op} (h : chkA M bx N dst o op = true) : OpA M bx N dst o op := by
  unfold chkA at h
  split at h
  · simp only [Bool.and_eq_true] at h; exact .boxP _ _ _ (opR_ok h.1) (boxOk_ok h.2)
  · simp only [Bool.and_eq_true] at h; obtain ⟨zv, hz⟩ := zeroR_ok h.1; exact .allocP _ _ zv hz (boxOk_ok h.2)
  · simp only [Bool.and_eq_true] at h; exact .boxH _ _ _ (opR_ok h.1) (dstOk_ok h.2)
  · simp only [Bool.and_eq_true, bne_iff_ne] at h; obtain ⟨zv, hz⟩ := zeroR_ok h.1.1; exact .allocH _ _ zv hz (fun e => h.1.2 (by rw [e]; rfl)) (dstOk_ok h.2)
  · simp only [Bool.and_eq_true, beq_iff_eq] at h; exact .store _ _ _ _ _ _ (opR_ok h.1.1.1) (opR_ok h.1.1.2) h.1.2 (by simpa using h.2)
  · simp only [Bool.and_eq_true, beq_iff_eq] at h
    obtain ⟨⟨⟨⟨h1, h2⟩, rfl⟩, h3⟩, h4⟩ := h
    split at h3
    · rename_i e he; obtain ⟨zv, _, hz⟩ := elT_ok (elemOf_ok he) h3; exact .app _ _ _ _ _ e _ _ zv (opR_ok h1) (opR_ok h2) hz (dstOk_ok h4)
    · cases h3
  · simp only [Bool.and_eq_true] at h; obtain ⟨e, zv, hl⟩ := litT_ok h.1; exact .litI _ _ e _ _ _ zv hl (dstOk_ok h.2)
  · simp only [Bool.and_eq_true] at h; obtain ⟨e, zv, hl⟩ := litT_ok h.1; exact .litO _ _ e _ _ _ zv hl (dstOk_ok h.2)
  · simp only [Bool.and_eq_true] at h
    obtain ⟨⟨⟨h1, h2⟩, h3⟩, h4⟩ := h
    split at h3
    · rename_i e he
      simp only [Bool.and_eq_true] at h3
      obtain ⟨zv, hzv, hz⟩ := elT_ok (elemOf_ok he) h3.1
      obtain ⟨zv', hz'⟩ := zeroR_ok h3.2
      have : zv' = zv := by have := hz'.hz; rw [hzv] at this; injection this with this; exact this.symm
      subst this
      exact .mks _ _ _ _ e _ _ zv' (opR_ok h1) (opR_ok h2) hz (fun C => (hz'.hr C).1) (dstOk_ok h4)
    · cases h3
  · simp only [Bool.and_eq_true] at h
    obtain ⟨⟨⟨h1, h2⟩, h3⟩, h4⟩ := h
    split at h3
    · rename_i e he
      simp only [Bool.and_eq_true, beq_iff_eq, bne_iff_ne] at h3
      exact .cpy _ _ _ _ _ e _ _ (opR_ok h1) (opR_ok h2) (elemOf_ok he) h3.1 (Nat.pos_of_ne_zero h3.2) (dstOk_ok h4)
    · cases h3
  · simp only [Bool.and_eq_true, beq_iff_eq] at h; exact .call _ _ _ _ _ _ h.1.1 (opsR_ok h.1.2) (dstOk_ok h.2)
  · simp only [Bool.and_eq_true] at h; exact .callv _ _ _ _ _ _ (opR_ok h.1.1) (opsR_ok h.1.2) (dstOk_ok h.2)
  · simp only [Bool.and_eq_true, decide_eq_true_eq] at h; exact .inv _ _ _ _ _ _ _ (opR_ok h.1.1.1) h.1.1.2 (opsR_ok h.1.2) (dstOk_ok h.2)
  · simp only [Bool.and_eq_true] at h; exact .p _ _ (chkP_ok h.1) (dstOk_ok h.2)
end
end Go.Ai
set_option linter.unusedVariables false
set_option linter.unusedSimpArgs false
namespace Go.Ai
variable (M : SM)
def grdOk (ops : Array Oper) : Option (Nat × Bool) → Option (Nat × Bool) → Bool
  | none, none => true
  | some (s, w), some (jj, w') => w == w' && (ops[jj]?).bind (·.dst) == some s
  | _, _ => false
def chkI (bx : List Nat) (N : Nat) (ops : Array Oper) (i : AI) : Bool := match ops[i.j]? with
  | some o => i.dst == o.dst && chkA M bx N o.dst i.op o.op && grdOk ops i.grd o.guard && (!i.op.isBox || i.grd.isNone)
  | none => false
def isFree (i : AI) : Bool := match i with
  | ⟨0, none, none, .free _⟩ => true
  | ⟨0, some t, none, .fz t'⟩ => t == t'
  | ⟨0, none, none, .fzb _ _⟩ => true
  | _ => false
def isFreeB (bx : List Nat) (i : AI) : Bool := match i with
  | ⟨0, none, none, .free _⟩ => true
  | ⟨0, some t, none, .fz t'⟩ => t == t' && !bx.contains t
  | ⟨0, none, none, .fzb _ _⟩ => true
  | _ => false
def isAgain (i : AI) : Bool := match i.op with
  | .again _ _ => i.dst.isNone
  | _ => false
def cutF : List AI → List AI × List AI
  | [] => ([], [])
  | i :: is => if isFree i then ([], i :: is) else ((i :: (cutF is).1), (cutF is).2)
/-- An operation with what is looked at again behind it. -/
def grp : List AI → List Grp
  | [] => []
  | i :: is => match grp is with
    | [] => [(i, [])]
    | g :: gs => if isAgain g.1 then (i, g.1 :: g.2) :: gs else (i, []) :: g :: gs
theorem grp_flat : ∀ is : List AI, flat (grp is) = is := by
  intro is
  induction is with
  | nil => rfl
  | cons i is ih =>
    simp only [grp]
    cases hg : grp is with
    | nil =>
      rw [hg] at ih
      simp only [flat, List.flatMap_nil] at ih
      subst ih
      rfl
    | cons g gs =>
      rw [hg] at ih
      simp only [flat, List.flatMap_cons] at ih
      simp only
      split
      · simp only [flat, List.flatMap_cons]; rw [← ih]; simp
      · simp only [flat, List.flatMap_cons]; rw [← ih]; simp
theorem cutF_eq : ∀ is : List AI, (cutF is).1 ++ (cutF is).2 = is := by
  intro is
  induction is with
  | nil => rfl
  | cons i is ih =>
    simp only [cutF]
    split
    · rfl
    · simp [ih]
def isT (t : Nat) : Opd → Bool
  | .t n => n == t
  | _ => false
def noPC : Opd → Bool
  | .c (.pptr _ _) => false
  | _ => true
def offS (i : AI) (t : Nat) : Bool := i.op.opds.all (fun x => !isT t x) && (match i.grd with | some (s, _) => s != t | none => true) && i.dst != some t && i.op.opds.all noPC
def offSd (i : AI) : Option Nat → Bool
  | none => true
  | some t => offS i t
def opdEq : Opd → Opd → Bool
  | .t n, .t m => n == m
  | .c (.int k n), .c (.int k' n') => decide (k = k') && decide (n = n')
  | _, _ => false
def opdoEq : Option Opd → Option Opd → Bool
  | none, none => true
  | some x, some y => opdEq x y
  | _, _ => false
def memEq : AOp → AOp → Bool
  | .load k x, .load k' x' => k == k' && opdEq x x'
  | .idx z x i, .idx z' x' i' => z == z' && opdEq x x' && opdEq i i'
  | .sl z x lo hi, .sl z' x' lo' hi' => z == z' && opdEq x x' && opdoEq lo lo' && opdoEq hi hi'
  | _, _ => false
def againEq (a i : AI) (t : Nat) : Bool := a.j == i.j && a.dst.isNone && a.grd == i.grd && (match a.op with | .again t' o => t' == t && memEq o i.op | _ => false)
def swB (q p : AI) : Bool := offSd q p.dst && offSd p q.dst && ((q.op.simple && p.op.simple) || (q.op.simple && !p.op.simple) || (!q.op.simple && p.op.pure))
def okgB (bx : List Nat) (g : Grp) : Bool :=
  ((!g.1.op.isBox || g.1.grd.isNone) && (g.1.op.isBox || (match g.1.dst with | some t => !bx.contains t | none => true))) &&
  (!g.1.op.mem || (match g.1.dst with | some t => g.1.op.opds.all (fun x => !isT t x) && (match g.1.grd with | some (s, _) => s != t | none => true) | none => false)) &&
  g.1.op.opds.all noPC && (!g.1.op.simple || g.2.isEmpty) && g.2.all isAgain
def pw {α : Type} (r : α → α → Bool) : List α → Bool
  | [] => true
  | x :: xs => xs.all (r x) && pw r xs
def dirs (ops : Array Oper) (i : Nat) : List Nat := match ops[i]? with
  | some o => (o.after.toList.filter fun e => Region.binds .any e).map (·.on)
  | none => []
def maskOf (acc : List Nat) : List Nat → Nat
  | [] => 0
  | d :: ds => (2 ^ d ||| acc.getD d 0) ||| maskOf acc ds
/-- What each operation waits for, by others too. -/
def befs (ops : Array Oper) : Nat → List Nat
  | 0 => []
  | n + 1 => let acc := befs ops n; acc ++ [maskOf acc (dirs ops n)]
def pairB (bs : List Nat) (x y : Grp) : Bool :=
  (bs.getD y.1.j 0).testBit x.1.j || (swB x.1 y.1 && x.2.all (fun a => offSd a y.1.dst) && (!x.1.op.mem || y.1.op.simple || (match x.1.dst with | some t => y.2.any fun a => againEq a x.1 t | none => true)))
def pair2B (m q : Grp) : Bool := !m.1.op.mem || !q.1.op.simple || offSd m.1 q.1.dst
def drawnB (bx : List Nat) (N : Nat) (ops : Array Oper) (gs : List Grp) : Bool :=
  gs.all (fun g => chkI M bx N ops g.1 && okgB bx g && !(dirs ops g.1.j).contains g.1.j) && gs.length == ops.size && (List.range ops.size).all (fun i => gs.any (fun g => g.1.j == i)) &&
  pw (fun x y => x.1.j != y.1.j && !(dirs ops x.1.j).contains y.1.j) gs && (List.range ops.size).all (fun i => (dirs ops i).all fun k => decide (k < ops.size)) &&
  pw (pairB (befs ops ops.size)) gs && pw pair2B gs
def chkC (bx : List Nat) (N : Nat) : AC → Code → Bool
  | .skip, .skip => true
  | .ret, .ret => true
  | .exit id, .exit id' => id == id'
  | .seq r b0, .seq A0 K => (chkC bx N r A0 && chkC bx N b0 K) || (match b0, A0 with
    | .cond c (.seq a k) (.seq b k'), .seq R (.cond X A B) => chkC bx N r R && opR M c X && chkC bx N a A && chkC bx N k K && chkC bx N b B && chkC bx N k' K
    | _, _ => false)
  | .cond c a b, .cond X A B => opR M c X && chkC bx N a A && chkC bx N b B
  | .block id a, .block id' A => id == id' && chkC bx N a A
  | .loop a, .loop A => chkC bx N a A
  | .reg is _, .region _ ops false => (cutF is).1.map (·.j) == List.range ops.size && (cutF is).1.all (chkI M bx N ops) && (cutF is).2.all (isFreeB bx)
  | .reg is _, .region _ ops true => drawnB M bx N ops (grp (cutF is).1) && (cutF is).2.all (isFreeB bx)
  | _, _ => false
def resP : ARes → ResultVar → Bool
  | .t n, .tmp m => n == m
  | .c d k, .cell d' t => d == d' && ldT M k t
  | _, _ => false
def chkFn (af : AFn) (fn : Func) : Bool := decide (af.np ≤ fn.ntmps) && (match fn.body with | some c => chkC M af.bx fn.ntmps af.body c | none => false) && all2 (resP M) af.res fn.results.toList
section
variable {M : SM}
theorem grdOk_ok {ops : Array Oper} {g o : Option (Nat × Bool)} (h : grdOk ops g o = true) : GrdOk ops g o := by
  unfold grdOk at h
  split at h
  · exact .none
  · rename_i s w jj w'
    simp only [Bool.and_eq_true, beq_iff_eq] at h
    obtain ⟨rfl, h2⟩ := h
    simp only [Option.bind_eq_some_iff] at h2
    obtain ⟨og, h3, h4⟩ := h2
    exact .some s w jj og h3 h4
  · cases h
theorem chkI_ok {bx : List Nat} {N : Nat} {ops : Array Oper} {i : AI} (h : chkI M bx N ops i = true) : ∃ o, OpI M bx N ops i o := by
  unfold chkI at h
  split at h
  · rename_i o ho
    simp only [Bool.and_eq_true, beq_iff_eq] at h
    obtain ⟨⟨⟨h1, h2⟩, h3⟩, h4⟩ := h
    refine ⟨o, ho, h1, chkA_ok h2, grdOk_ok h3, fun hb => ?_⟩
    simpa [hb] using h4
  · cases h
theorem frees_ok {bx : List Nat} {fs : List AI} (h : fs.all (isFreeB bx) = true) : Frees bx fs := by
  intro f hf
  have := List.all_eq_true.1 h f hf
  unfold isFreeB at this
  split at this
  · exact ⟨_, .inl rfl⟩
  · simp only [Bool.and_eq_true, beq_iff_eq, Bool.not_eq_true', List.contains_eq_mem, decide_eq_false_iff_not] at this
    obtain ⟨rfl, h2⟩ := this
    exact ⟨_, .inr (.inl ⟨h2, rfl⟩)⟩
  · exact ⟨_, .inr (.inr ⟨_, rfl⟩)⟩
  · cases this
def mtB (M : SM) (l : List (Nat × Nat × Nat)) : Bool := l.all fun e => match M.tm e.1, M.nm e.2.1 with
  | some t, some nm => (match M.fm e.2.2 with | some k => methF M.P t nm == some k | none => false)
  | _, _ => true
theorem mtB_ok {l : List (Nat × Nat × Nat)} (h : mtB M l = true) : MtOK M (mtOf l) := by
  intro tag name f t nm h1 h2 h3
  unfold mtOf at h1
  simp only [Option.map_eq_some_iff] at h1
  obtain ⟨e, he, rfl⟩ := h1
  have hp := List.find?_some he
  simp only [Bool.and_eq_true, beq_iff_eq] at hp
  have hm := List.all_eq_true.1 h e (List.mem_of_find?_eq_some he)
  rw [hp.1, hp.2, h2, h3] at hm
  simp only at hm
  split at hm
  · rename_i k hk
    exact ⟨k, hk, methF_ok (by simpa using hm)⟩
  · cases hm
theorem gh_ok {a : AI} (h : isAgain a = true) : Gh a := by
  unfold isAgain at h
  split at h
  · rename_i t o ho; exact ⟨by simpa using h, t, o, ho⟩
  · cases h
theorem isT_ok {t : Nat} {x : Opd} (h : (!isT t x) = true) : x ≠ .t t := by
  rintro rfl
  simp [isT] at h
theorem noPC_ok {x : Opd} (h : noPC x = true) : NoPC x := by
  intro d c e
  subst e
  simp [noPC] at h
theorem offS_ok {i : AI} {t : Nat} (h : offS i t = true) : OffS i t := by
  simp only [offS, Bool.and_eq_true, List.all_eq_true, bne_iff_ne] at h
  obtain ⟨⟨⟨h1, h2⟩, h3⟩, h4⟩ := h
  refine ⟨fun x hx => isT_ok (h1 x hx), fun s w hg => ?_, h3, fun x hx => noPC_ok (h4 x hx)⟩
  rw [hg] at h2
  simpa using h2
theorem offSd_ok {i : AI} {d : Option Nat} (h : offSd i d = true) : ∀ t, d = some t → OffS i t := by
  intro t ht
  subst ht
  exact offS_ok h
theorem opdEq_ok {x y : Opd} (h : opdEq x y = true) : x = y := by
  unfold opdEq at h
  split at h
  · simp only [beq_iff_eq] at h; rw [h]
  · simp only [Bool.and_eq_true, decide_eq_true_eq] at h; rw [h.1, h.2]
  · cases h
theorem opdoEq_ok {x y : Option Opd} (h : opdoEq x y = true) : x = y := by
  unfold opdoEq at h
  split at h
  · rfl
  · rw [opdEq_ok h]
  · cases h
theorem memEq_ok {x y : AOp} (h : memEq x y = true) : x = y := by
  unfold memEq at h
  split at h
  · simp only [Bool.and_eq_true, beq_iff_eq] at h; rw [h.1, opdEq_ok h.2]
  · simp only [Bool.and_eq_true, beq_iff_eq] at h; rw [h.1.1, opdEq_ok h.1.2, opdEq_ok h.2]
  · simp only [Bool.and_eq_true, beq_iff_eq] at h; rw [h.1.1.1, opdEq_ok h.1.1.2, opdoEq_ok h.1.2, opdoEq_ok h.2]
  · cases h
theorem againEq_ok {a i : AI} {t : Nat} (h : againEq a i t = true) : a = againOf i t := by
  obtain ⟨j, d, g, o⟩ := a
  simp only [againEq, Bool.and_eq_true, beq_iff_eq, Option.isNone_iff_eq_none] at h
  obtain ⟨⟨⟨h1, h2⟩, h3⟩, h4⟩ := h
  split at h4
  · simp only [Bool.and_eq_true, beq_iff_eq] at h4
    rw [h1, h2, h3, h4.1, memEq_ok h4.2]
    rfl
  · cases h4
theorem pw_ok {α : Type} {r : α → α → Bool} : ∀ {xs : List α}, pw r xs = true → xs.Pairwise fun x y => r x y = true := by
  intro xs
  induction xs with
  | nil => intro _; exact .nil
  | cons x xs ih =>
    intro h
    simp only [pw, Bool.and_eq_true, List.all_eq_true] at h
    exact .cons h.1 (ih h.2)
theorem dirs_iff {ops : Array Oper} {i k : Nat} : k ∈ dirs ops i ↔ Dir ops i k := by
  unfold dirs Dir
  constructor
  · intro h
    split at h
    · rename_i o ho
      simp only [List.mem_map, List.mem_filter, Array.mem_toList_iff] at h
      obtain ⟨e, ⟨he, hb⟩, rfl⟩ := h
      exact ⟨o, ho, e, he, hb, rfl⟩
    · cases h
  · rintro ⟨o, ho, e, he, hb, rfl⟩
    rw [ho]
    simp only [List.mem_map, List.mem_filter, Array.mem_toList_iff]
    exact ⟨e, ⟨he, hb⟩, rfl⟩
theorem maskOf_bit {ops : Array Oper} {acc : List Nat} (hacc : ∀ d k, (acc.getD d 0).testBit k = true → Deps ops d k) {i : Nat} : ∀ (ds : List Nat), (∀ d ∈ ds, Dir ops i d) → ∀ k, (maskOf acc ds).testBit k = true → Deps ops i k := by
  intro ds
  induction ds with
  | nil => intro _ k h; simp [maskOf] at h
  | cons d ds ih =>
    intro hd k h
    simp only [maskOf, Nat.testBit_or, Bool.or_eq_true] at h
    rcases h with (h | h) | h
    · rw [Nat.testBit_two_pow] at h
      simp only [decide_eq_true_eq] at h
      subst h
      exact .one _ _ (hd _ (List.mem_cons_self ..))
    · exact .step _ _ _ (hd d (List.mem_cons_self ..)) (hacc d k h)
    · exact ih (fun d' hd' => hd d' (List.mem_cons_of_mem _ hd')) k h
theorem befs_len {ops : Array Oper} : ∀ n, (befs ops n).length = n := by
  intro n
  induction n with
  | zero => rfl
  | succ n ih => simp [befs, ih]
theorem befs_ok {ops : Array Oper} : ∀ n d k, ((befs ops n).getD d 0).testBit k = true → Deps ops d k := by
  intro n
  induction n with
  | zero => intro d k h; simp [befs] at h
  | succ n ih =>
    intro d k h
    simp only [befs] at h
    by_cases hd : d < n
    · rw [List.getD_eq_getElem?_getD, List.getElem?_append_left (by rw [befs_len]; exact hd), ← List.getD_eq_getElem?_getD] at h
      exact ih d k h
    · rw [List.getD_eq_getElem?_getD, List.getElem?_append_right (by rw [befs_len]; omega), befs_len] at h
      by_cases he : d = n
      · subst he
        simp only [Nat.sub_self, List.getElem?_cons_zero, Option.getD_some] at h
        exact maskOf_bit ih (dirs ops d) (fun d' hd' => dirs_iff.1 hd') k h
      · obtain ⟨m, hm⟩ : ∃ m, d - n = m + 1 := ⟨d - n - 1, by omega⟩
        rw [hm] at h
        simp at h
theorem swB_ok {q p : AI} (h : swB q p = true) : Sw q p := by
  simp only [swB, Bool.and_eq_true, Bool.or_eq_true, Bool.not_eq_true'] at h
  obtain ⟨⟨h1, h2⟩, h3⟩ := h
  refine ⟨offSd_ok h1, offSd_ok h2, ?_⟩
  rcases h3 with (h3 | h3) | h3
  · exact .inl h3
  · exact .inr (.inl h3)
  · exact .inr (.inr h3)
theorem okgB_ok {bx : List Nat} {g : Grp} (h : okgB bx g = true) : Okg bx g.1 ∧ (g.1.op.simple = true → g.2 = []) ∧ ∀ a ∈ g.2, Gh a := by
  simp only [okgB, Bool.and_eq_true, Bool.or_eq_true, Bool.not_eq_true', Option.isNone_iff_eq_none, List.all_eq_true, List.isEmpty_iff] at h
  obtain ⟨⟨⟨⟨⟨h1, h2⟩, h3⟩, h4⟩, h5⟩, h6⟩ := h
  refine ⟨⟨⟨fun hb => ?_, fun hb t ht => ?_⟩, fun hm => ?_, fun x hx => noPC_ok (h4 x hx)⟩, fun hs => ?_, fun a ha => gh_ok (h6 a ha)⟩
  · rcases h1 with h1 | h1
    · rw [hb] at h1; cases h1
    · exact h1
  · rcases h2 with h2 | h2
    · rw [hb] at h2; cases h2
    · rw [ht] at h2
      simpa using h2
  · rcases h3 with h3 | h3
    · rw [hm] at h3; cases h3
    · split at h3
      · rename_i t ht
        simp only [Bool.and_eq_true, List.all_eq_true] at h3
        refine ⟨t, ht, fun x hx => isT_ok (h3.1 x hx), fun s w hg => ?_⟩
        have h7 := h3.2
        rw [hg] at h7
        simpa using h7
      · cases h3
  · rcases h5 with h5 | h5
    · rw [hs] at h5; cases h5
    · exact h5
theorem drawnB_ok {bx : List Nat} {N : Nat} {ops : Array Oper} {gs : List Grp} (h : drawnB M bx N ops gs = true) : DrawnOk M bx N ops gs := by
  simp only [drawnB, Bool.and_eq_true, List.all_eq_true, beq_iff_eq, List.any_eq_true, List.mem_range, decide_eq_true_eq, Bool.not_eq_true', List.contains_eq_mem, decide_eq_false_iff_not] at h
  obtain ⟨⟨⟨⟨⟨⟨h1, h2⟩, h3⟩, h4⟩, h5⟩, h6⟩, h7⟩ := h
  have h4' := pw_ok h4
  refine ⟨fun g hg => chkI_ok (h1 g hg).1.1, fun g hg => okgB_ok (h1 g hg).1.2, h2, h3, ?_, ?_, fun g hg hd => (h1 g hg).2 (dirs_iff.2 hd), fun i k hd => ?_, ?_, ?_⟩
  · exact h4'.imp fun hh => by simp only [Bool.and_eq_true, bne_iff_ne] at hh; exact hh.1
  · exact h4'.imp fun hh => by
      simp only [Bool.and_eq_true, Bool.not_eq_true', List.contains_eq_mem, decide_eq_false_iff_not] at hh
      exact fun hd => hh.2 (dirs_iff.2 hd)
  · obtain ⟨o, ho, _⟩ := id hd
    exact h5 i (Array.getElem?_eq_some_iff.1 ho).1 k (dirs_iff.2 hd)
  · refine (pw_ok h6).imp fun {x y} hh => ?_
    simp only [pairB, Bool.or_eq_true, Bool.and_eq_true, List.all_eq_true, Bool.not_eq_true'] at hh
    rcases hh with hh | ⟨⟨hh1, hh2⟩, hh3⟩
    · exact .inl (befs_ok _ _ _ hh)
    · refine .inr ⟨swB_ok hh1, fun a ha => offSd_ok (hh2 a ha), fun hm hs t ht => ?_⟩
      rcases hh3 with (hh3 | hh3) | hh3
      · rw [hm] at hh3; cases hh3
      · rw [hs] at hh3; cases hh3
      · rw [ht] at hh3
        simp only [List.any_eq_true] at hh3
        obtain ⟨a, ha, he⟩ := hh3
        rw [← againEq_ok he]
        exact ha
  · refine (pw_ok h7).imp fun {m q} hh hm hs => ?_
    simp only [pair2B, Bool.or_eq_true, Bool.not_eq_true'] at hh
    rcases hh with (hh | hh) | hh
    · rw [hm] at hh; cases hh
    · rw [hs] at hh; cases hh
    · exact offSd_ok hh
theorem chkC_okn {bx : List Nat} {N : Nat} : ∀ (n : Nat) {ac : AC}, SizeOf.sizeOf ac ≤ n → ∀ {c : Code}, chkC M bx N ac c = true → CodeP M bx N ac c := by
  intro n
  induction n with
  | zero => intro ac hn; cases ac <;> simp at hn
  | succ n ih =>
    intro ac hn c h
    cases ac with
    | skip => cases c <;> first | exact .skip | cases h
    | ret => cases c <;> first | exact .ret | cases h
    | exit id => cases c <;> first | (simp only [chkC, beq_iff_eq] at h; subst h; exact .exit id) | cases h
    | seq a b =>
      cases c <;> try (simp only [chkC, Bool.false_eq_true] at h; done)
      rename_i A B
      simp only [AC.seq.sizeOf_spec] at hn
      unfold chkC at h
      simp only [Bool.or_eq_true, Bool.and_eq_true] at h
      rcases h with h | h
      · exact .seq _ _ _ _ (ih (by omega) h.1) (ih (by omega) h.2)
      · split at h
        · rename_i c a1 k b1 k' R X A1 B1
          simp only [Bool.and_eq_true] at h
          simp only [AC.seq.sizeOf_spec, AC.cond.sizeOf_spec] at hn
          obtain ⟨⟨⟨⟨⟨h1, h2⟩, h3⟩, h4⟩, h5⟩, h6⟩ := h
          exact .dist _ _ _ _ _ _ _ _ _ _ _ (ih (by omega) h1) (opR_ok h2) (ih (by omega) h3) (ih (by omega) h4) (ih (by omega) h5) (ih (by omega) h6)
        · cases h
    | cond x a b =>
      simp only [AC.cond.sizeOf_spec] at hn
      cases c <;> first | (simp only [chkC, Bool.and_eq_true] at h; exact .cond _ _ _ _ _ _ (opR_ok h.1.1) (ih (by omega) h.1.2) (ih (by omega) h.2)) | cases h
    | block id a =>
      simp only [AC.block.sizeOf_spec] at hn
      cases c <;> first | (simp only [chkC, Bool.and_eq_true, beq_iff_eq] at h; obtain ⟨rfl, h⟩ := h; exact .block _ _ _ (ih (by omega) h)) | cases h
    | loop a =>
      simp only [AC.loop.sizeOf_spec] at hn
      cases c <;> first | (simp only [chkC] at h; exact .loop _ _ (ih (by omega) h)) | cases h
    | reg is ks =>
      cases c <;> try (cases h; done)
      rename_i id ops dr
      cases dr with
      | false =>
        simp only [chkC, Bool.and_eq_true, beq_iff_eq, List.all_eq_true] at h
        obtain ⟨⟨h1, h2⟩, h3⟩ := h
        rw [← cutF_eq is]
        exact .reg _ _ ks id ops (fun i hi => chkI_ok (h2 i hi)) h1 (frees_ok (List.all_eq_true.2 h3))
      | true =>
        simp only [chkC, Bool.and_eq_true] at h
        rw [← cutF_eq is, ← grp_flat (cutF is).1]
        exact .drawn _ _ ks id ops (drawnB_ok h.1) (frees_ok h.2)
theorem chkC_ok {bx : List Nat} {N : Nat} {ac : AC} {c : Code} (h : chkC M bx N ac c = true) : CodeP M bx N ac c := chkC_okn _ (Nat.le_refl _) h
theorem chkFn_ok {af : AFn} {fn : Func} (h : chkFn M af fn = true) : FnP M af fn := by
  simp only [chkFn, Bool.and_eq_true, decide_eq_true_eq] at h
  obtain ⟨⟨h1, h2⟩, h3⟩ := h
  obtain ⟨h4, h5⟩ := all2_ok h3
  refine ⟨h1, ?_, by simpa using h4, fun i x y hx hy => ?_⟩
  · split at h2
    · rename_i c hc; exact ⟨c, hc, chkC_ok h2⟩
    · cases h2
  · have := h5 i x y hx (by simpa using hy)
    unfold resP at this
    split at this
    · simp only [beq_iff_eq] at this; subst this; exact .t _
    · simp only [Bool.and_eq_true, beq_iff_eq] at this; obtain ⟨rfl, h6⟩ := this; exact .c _ _ _ (ldT_ok h6)
    · cases this
end
end Go.Ai
