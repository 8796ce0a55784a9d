/- The abstract machine: values without addresses, a heap of numbered objects, lowered code, a run with fuel. -/
import GoSem.Core.Next
namespace Go.Ai

inductive AVal where
  | undef
  | int (k : IntKind) (n : Int)
  | bool (b : Bool)
  | str (s : ByteArray)
  | nilp
  | ptr (id i c : Nat)
  | pptr (d c : Nat)
  | pbox (cs : List AVal)
  | nils
  | slice (id off len : Nat)
  | list (es : List (List AVal))
  | iptr (es : List (List AVal)) (i c : Nat)
  | func (f : Nat) (caps : List AVal)
  | nilf
  | iface (tag : Nat) (v : AVal)
  | nili
  | agg (cs : List AVal)
  | tuple (vs : List AVal)
  deriving Inhabited

abbrev Obj' := List (List AVal)
abbrev Heap' := Nat → Option Obj'
structure AG where
  next : Nat
  obj : Heap'
abbrev Fr := Nat → AVal
def fr0 : Fr := fun _ => .undef
def noObj : Heap' := fun _ => none
def upd (fr : Fr) (d : Nat) (v : AVal) : Fr := fun t => if t = d then v else fr t
def updO (g : Heap') (d : Nat) (v : Option Obj') : Heap' := fun t => if t = d then v else g t
def ovr (g h : Heap') : Heap' := fun t => (h t).or (g t)

/-- What stands for a slot as an operand: a struct variable of the frame stands for its address. -/
def pv (d : Nat) : AVal → AVal
  | .pbox _ => .pptr d 0
  | v => v
/-- A value that may be handed on (no address of the frame). -/
def gv : AVal → Option AVal
  | .pptr _ _ | .pbox _ | .undef => none
  | v => some v
def cellsOf : AVal → Option (List AVal)
  | .agg cs => some cs
  | .tuple _ | .pptr _ _ | .pbox _ | .undef => none
  | v => some [v]

inductive Opd where
  | t (n : Nat)
  | c (v : AVal)
  deriving Inhabited
def Opd.ev (fr : Fr) : Opd → AVal
  | .t n => pv n (fr n)
  | .c v => v
def Opd.gev (fr : Fr) (x : Opd) : Option AVal := gv (x.ev fr)
def gevs (fr : Fr) : List Opd → Option (List AVal)
  | [] => some []
  | x :: xs => (x.gev fr).bind fun v => (gevs fr xs).bind fun vs => some (v :: vs)
def gcells (fr : Fr) (x : Opd) : Option (List AVal) := (x.gev fr).bind cellsOf
def gcellss (fr : Fr) : List Opd → Option (List (List AVal))
  | [] => some []
  | x :: xs => (gcells fr x).bind fun v => (gcellss fr xs).bind fun vs => some (v :: vs)

inductive CM where
  | whole
  | alone (snap fz : Bool)
  deriving DecidableEq, Inhabited

/-- What '==' compares: truth values, structs of whole numbers (true) and truth values (false), a function and nil. -/
inductive EqK where
  | b
  | st (ks : List Bool)
  | f
  deriving Inhabited
inductive AOp where
  | mv (x : Opd)
  | pick (c a b : Opd)
  | boxP (x : Opd) | boxH (x : Opd)
  | allocP (z : List AVal) | allocH (z : List AVal)
  | build (z : List AVal) (ps : List (Nat × Nat × Opd))
  | litI (z : Nat) (ps : List Opd) | litO (z : Nat) (ps : List Opd)
  | load (k : Option Nat) (x : Opd)
  | store (n : Nat) (x v : Opd)
  | nilck (x : Opd)
  | bin (op : BinOp) (x y : Opd)
  | eqk (k : EqK) (neg : Bool) (x y : Opd)
  | nt (x : Opd)
  | neg (x : Opd)
  | fld (off : Nat) (x : Opd)
  | idx (z : Nat) (x i : Opd)
  | ext (x : Opd) (i : Nat)
  | fieldv (off : Nat) (k : Option Nat) (x : Opd)
  | len (x : Opd)
  | slen (x : Opd)
  | app (z bytes : Nat) (x y : Opd)
  | call (m : CM) (f : Nat) (as : List Opd)
  | callv (m : CM) (x : Opd) (as : List Opd)
  | inv (x : Opd) (name : Nat) (as : List Opd)
  | mkf (f : Nat) (caps : List Opd)
  | mki (tag : Nat) (x : Opd)
  | mks (z : List AVal) (bytes : Nat) (n : Opd)
  | sl (z : Nat) (x : Opd) (lo hi : Option Opd)
  | conv (k : IntKind) (x : Opd)
  | mxn (mx : Bool) (xs : List Opd)
  | cpy (z : Nat) (x y : Opd)
  -- no operation of the program: hints
  | free (t : Nat)
  | fz (t : Nat)
  | again (t : Nat) (o : AOp)
  deriving Inhabited

structure AI where
  j : Nat
  dst : Option Nat
  grd : Option (Nat × Bool)
  op : AOp
  deriving Inhabited

inductive AC where
  | skip | ret
  | seq (a b : AC)
  | cond (c : Opd) (a b : AC)
  | block (id : Nat) (a : AC)
  | loop (a : AC)
  | exit (id : Nat)
  | reg (ops : List AI) (ks : List Nat)
  deriving Inhabited

inductive ARes where
  | t (n : Nat)
  | c (d : Nat) (k : Option Nat)
  deriving Inhabited
structure AFn where
  np : Nat
  nt : Nat
  bx : List Nat
  res : List ARes
  body : AC
  deriving Inhabited

/-! ## operations on values -/
def intBin (op : BinOp) (k : IntKind) (a b : Int) : Option AVal :=
  match op with
  | .add => some (.int k (k.wrap (a + b)))
  | .sub => some (.int k (k.wrap (a - b)))
  | .mul => some (.int k (k.wrap (a * b)))
  | .quo => if b = 0 then none else some (.int k (k.wrap (a.tdiv b)))
  | .rem => if b = 0 then none else some (.int k (a.tmod b))
  | .xor => some (.int k (k.wrap (BitVec.ofInt k.bits a ^^^ BitVec.ofInt k.bits b).toNat))
  | .eql => some (.bool (decide (a = b)))
  | .neq => some (.bool (!decide (a = b)))
  | .lss => some (.bool (decide (a < b)))
  | .leq => some (.bool (decide (a ≤ b)))
  | .gtr => some (.bool (decide (b < a)))
  | .geq => some (.bool (decide (b ≤ a)))
  | _ => none
def eqks : List Bool → List AVal → List AVal → Option Bool
  | [], [], [] => some true
  | true :: ks, .int k a :: xs, .int k' b :: ys => if k = k' then (eqks ks xs ys).map fun r => decide (a = b) && r else none
  | false :: ks, .bool a :: xs, .bool b :: ys => (eqks ks xs ys).map fun r => (a == b) && r
  | _, _, _ => none
def eqv (k : EqK) (x y : AVal) : Option Bool :=
  match k, x, y with
  | .b, .bool a, .bool b => some (a == b)
  | .st ks, .agg xs, .agg ys => eqks ks xs ys
  | .f, .nilf, .nilf => some true
  | .f, .func _ _, .nilf => some false
  | .f, .nilf, .func _ _ => some false
  | _, _, _ => none
def binv (op : BinOp) (x y : AVal) : Option AVal :=
  match x, y with
  | .int k a, .int k' b => if k = k' then intBin op k a b else none
  | _, _ => none
def eqkv (k : EqK) (neg : Bool) (x y : AVal) : Option AVal := (eqv k x y).map fun b => .bool (if neg then !b else b)
/-- What is read at cell c of an element: one cell, or so many together. -/
def ldv (k : Option Nat) (e : List AVal) (c : Nat) : Option AVal :=
  match k with
  | none => e[c]?
  | some n => if c + n ≤ e.length then some (.agg ((e.drop c).take n)) else none
def splice : List AVal → Nat → List AVal → List AVal
  | xs, 0, [] => xs
  | [], _, _ => []
  | _ :: xs, 0, v :: vs => v :: splice xs 0 vs
  | x :: xs, c + 1, vs => x :: splice xs c vs
def fillB : List AVal → List (Nat × List AVal) → List AVal
  | cs, [] => cs
  | cs, (o, vs) :: r => fillB (splice cs o vs) r
def partsOf (fr : Fr) : List (Nat × Nat × Opd) → Option (List (Nat × List AVal))
  | [] => some []
  | (o, n, x) :: r => (gcells fr x).bind fun vs => if vs.length = n then (partsOf fr r).bind fun t => some ((o, vs) :: t) else none
def intOf : AVal → Option Int
  | .int _ n => some n
  | _ => none
def boundOf (x : Option AVal) (d : Nat) : Option Nat :=
  match x with
  | none => some d
  | some (.int _ n) => if 0 ≤ n then some n.toNat else none
  | _ => none
def omap {α β : Type} (f : α → Option β) : List α → Option (List β)
  | [] => some []
  | x :: xs => (f x).bind fun y => (omap f xs).bind fun ys => some (y :: ys)
/-- Written out: all that a value leads to, read only. -/
def frz : Nat → Heap' → AVal → Option AVal
  | 0, _, _ => none
  | d + 1, g, v =>
    match v with
    | .nils => some (.list [])
    | .slice id off len => (g id).bind fun es => if off + len ≤ es.length then (omap (omap (frz d g)) ((es.drop off).take len)).map .list else none
    | .ptr id i c => (g id).bind fun es => (omap (omap (frz d g)) es).map fun es' => .iptr es' i c
    | .agg cs => (omap (frz d g) cs).map .agg
    | .tuple vs => (omap (frz d g) vs).map .tuple
    | .func f caps => (omap (frz d g) caps).map (.func f)
    | .iface t v => (frz d g v).map (.iface t)
    | .undef | .pptr _ _ | .pbox _ => none
    | v => some v
def frzs (g : Heap') (vs : List AVal) : Option (List AVal) := omap (frz 8 g) vs
/-- No read only list, and nothing that leads to one. -/
def noImm : AVal → Bool
  | .int _ _ | .bool _ | .str _ | .nilp | .ptr _ _ _ | .nils | .slice _ _ _ | .nilf | .nili => true
  | .agg cs => noImms cs
  | .tuple vs => noImms vs
  | _ => false
where noImms : List AVal → Bool
  | [] => true
  | v :: vs => noImm v && noImms vs
def noImmO (g : Heap') : Prop := ∀ id es, g id = some es → ∀ e ∈ es, ∀ c ∈ e, noImm c = true

def maxA : Nat := 1099511627776

abbrev CallF := Nat → List AVal → AG → Option (AVal × AG)

/-- A call, by its kind. -/
noncomputable def callBy (call : CallF) (m : CM) (f : Nat) (as : List AVal) (G : AG) : Option (AVal × AG) :=
  match m with
  | .whole => call f as G
  | .alone snap fz =>
    (frzs (if snap then G.obj else noObj) as).bind fun as' =>
    (call f as' ⟨G.next, noObj⟩).bind fun r =>
    open Classical in
    if G.next ≤ r.2.next then
      if fz then (frz 8 r.2.obj r.1).bind fun v => if snap = false ∨ noImm v = true then some (v, ⟨r.2.next, G.obj⟩) else none
      else if snap = false ∨ (noImm r.1 = true ∧ noImmO r.2.obj) then some (r.1, ⟨r.2.next, ovr G.obj r.2.obj⟩) else none
    else none

/-- What an append or a copy takes from. -/
def srcOf (g : Heap') : AVal → Option Obj'
  | .list es => some es
  | .nils => some []
  | .slice id off len => (g id).bind fun es => if off + len ≤ es.length then some ((es.drop off).take len) else none
  | _ => none
open Classical in
noncomputable def appV (z bytes : Nat) (x y : AVal) (G : AG) : Option (AVal × AG) :=
  (srcOf G.obj y).bind fun ns =>
    if (∀ e ∈ ns, e.length = z) then
      match x with
      | .nils => if ns = [] then some (.nils, G) else if ns.length * bytes ≤ maxA then some (.slice G.next 0 ns.length, ⟨G.next + 1, updO G.obj G.next (some ns)⟩) else none
      | .slice id 0 len => (G.obj id).bind fun es =>
        if es.length = len ∧ es ≠ [] ∧ (∀ e ∈ es, e.length = z) ∧ (len + ns.length) * bytes ≤ maxA then
          some (.slice G.next 0 (len + ns.length), ⟨G.next + 1, updO (updO G.obj id none) G.next (some (es ++ ns))⟩)
        else none
      | _ => none
    else none

def methodT : Nat → Nat → Option Nat := fun _ _ => none

open Classical in
/-- An operation that gives a value. -/
noncomputable def evOp (call : CallF) (mt : Nat → Nat → Option Nat) (fr : Fr) (G : AG) : AOp → Option (AVal × AG)
  | .mv x => some (x.ev fr, G)
  | .pick c a b =>
    match c.ev fr, a.ev fr, b.ev fr with
    | .bool t, .bool x, .bool y => some (.bool (if t then x else y), G)
    | .bool t, x, y => some (if t then x else y, G)
    | _, _, _ => none
  | .boxH x => (gcells fr x).bind fun cs => if cs = [] then none else some (.ptr G.next 0 0, ⟨G.next + 1, updO G.obj G.next (some [cs])⟩)
  | .allocH z => some (.ptr G.next 0 0, ⟨G.next + 1, updO G.obj G.next (some [z])⟩)
  | .build z ps => (partsOf fr ps).bind fun vs => some (.agg (fillB z vs), G)
  | .litI z ps => (gcellss fr ps).bind fun es => if (∀ e ∈ es, e.length = z) then some (.list es, G) else none
  | .litO z ps => (gcellss fr ps).bind fun es => if es = [] then some (.nils, G) else if (∀ e ∈ es, e.length = z) then some (.slice G.next 0 es.length, ⟨G.next + 1, updO G.obj G.next (some es)⟩) else none
  | .load k x =>
    match x.ev fr with
    | .pptr d c => match fr d with
      | .pbox cs => (ldv k cs c).bind fun v => some (v, G)
      | _ => none
    | .ptr id i c => (G.obj id).bind fun es => (es[i]?).bind fun e => (ldv k e c).bind fun v => some (v, G)
    | .iptr es i c => (es[i]?).bind fun e => (ldv k e c).bind fun v => some (v, G)
    | _ => none
  | .nilck x =>
    match x.ev fr with
    | .pptr d c => some (.pptr d c, G)
    | .ptr id i c => some (.ptr id i c, G)
    | .iptr es i c => some (.iptr es i c, G)
    | .func f cs => some (.func f cs, G)
    | .iface t v => some (.iface t v, G)
    | _ => none
  | .bin op x y => (x.gev fr).bind fun a => (y.gev fr).bind fun b => (binv op a b).bind fun v => some (v, G)
  | .eqk k neg x y => (x.gev fr).bind fun a => (y.gev fr).bind fun b => (eqkv k neg a b).bind fun v => some (v, G)
  | .nt x => match x.ev fr with
    | .bool b => some (.bool (!b), G)
    | _ => none
  | .neg x => match x.ev fr with
    | .int k n => some (.int k (k.wrap (0 - n)), G)
    | _ => none
  | .fld off x =>
    match x.ev fr with
    | .pptr d c => some (.pptr d (c + off), G)
    | .ptr id i c => some (.ptr id i (c + off), G)
    | .iptr es i c => some (.iptr es i (c + off), G)
    | _ => none
  | .idx z x i =>
    match x.ev fr, i.ev fr with
    | .list es, .int _ n => if 0 ≤ n ∧ n < es.length ∧ (∀ e ∈ es, e.length = z) then some (.iptr es n.toNat 0, G) else none
    | .slice id off len, .int _ n => if 0 ≤ n ∧ n < len then (G.obj id).bind fun es => (es[off + n.toNat]?).bind fun e => if e.length = z then some (.ptr id (off + n.toNat) 0, G) else none else none
    | _, _ => none
  | .ext x i => match x.ev fr with
    | .tuple vs => (vs[i]?).bind fun v => some (v, G)
    | _ => none
  | .fieldv off k x => match x.ev fr with
    | .agg cs => (ldv k cs off).bind fun v => some (v, G)
    | _ => none
  | .len x => match x.ev fr with
    | .list es => some (.int .i64 es.length, G)
    | .nils => some (.int .i64 0, G)
    | .slice _ _ n => some (.int .i64 n, G)
    | _ => none
  | .slen x => match x.ev fr with
    | .str s => some (.int .i64 s.size, G)
    | _ => none
  | .app z bytes x y => appV z bytes (x.ev fr) (y.ev fr) G
  | .call m f as => (gevs fr as).bind fun vs => callBy call m f vs G
  | .callv m x as => match x.ev fr with
    | .func f caps => (gevs fr as).bind fun vs => callBy call m f (vs ++ caps) G
    | _ => none
  | .inv x name as => match x.ev fr with
    | .iface tag v => (mt tag name).bind fun f => (gevs fr as).bind fun vs => callBy call .whole f (v :: vs) G
    | _ => none
  | .mkf f caps => (gevs fr caps).bind fun cs => some (.func f cs, G)
  | .mki tag x => (x.gev fr).bind fun v => some (.iface tag v, G)
  | .mks z bytes n => match n.ev fr with
    | .int .i64 m => if m = 0 then some (.nils, G) else if 0 ≤ m ∧ m * bytes ≤ maxA then some (.slice G.next 0 m.toNat, ⟨G.next + 1, updO G.obj G.next (some (List.replicate m.toNat z))⟩) else none
    | _ => none
  | .sl z x lo hi =>
    match x.ev fr with
    | .list es => (boundOf (lo.map (·.ev fr)) 0).bind fun l => (boundOf (hi.map (·.ev fr)) es.length).bind fun h =>
      if l ≤ h ∧ h ≤ es.length ∧ (∀ e ∈ es, e.length = z) then some (.list ((es.drop l).take (h - l)), G) else none
    | .slice id off len => (boundOf (lo.map (·.ev fr)) 0).bind fun l => (boundOf (hi.map (·.ev fr)) len).bind fun h =>
      if l ≤ h ∧ h ≤ len then (G.obj id).bind fun es => if es ≠ [] ∧ (∀ e ∈ es, e.length = z) then some (.slice id (off + l) (h - l), G) else none else none
    | _ => none
  | .conv k x => match x.ev fr with
    | .int _ n => some (.int k (k.wrap n), G)
    | _ => none
  | .mxn mx xs => (gevs fr xs).bind fun vs =>
    match vs with
    | [.int k a, .int k' b] => if k = k' then some (.int k (if mx then (if b > a then b else a) else (if b < a then b else a)), G) else none
    | _ => none
  | .cpy z x y =>
    (srcOf G.obj (y.ev fr)).bind fun ns =>
      if (∀ e ∈ ns, e.length = z) then
        match x.ev fr with
        | .nils => some (.int .i64 0, G)
        | .slice id 0 len => (G.obj id).bind fun es =>
          if len ≤ es.length ∧ es ≠ [] ∧ (∀ e ∈ es, e.length = z) then
            some (.int .i64 (min ns.length len : Nat), ⟨G.next, updO G.obj id (some (ns.take (min ns.length len) ++ es.drop (min ns.length len)))⟩)
          else none
        | _ => none
      else none
  | _ => none

def put (fr : Fr) (d : Option Nat) (v : AVal) : Fr := match d with
  | some d => upd fr d v
  | none => fr

open Classical in
/-- An operation, its guard not looked at. -/
noncomputable def evD (call : CallF) (mt : Nat → Nat → Option Nat) (i : AI) (fr : Fr) (G : AG) : Option (Fr × AG) :=
  match i.op with
  | .boxP x => match i.dst with
    | some d => match fr d with
      | .undef => (gcells fr x).bind fun cs => some (upd fr d (.pbox cs), G)
      | _ => none
    | none => none
  | .allocP z => match i.dst with
    | some d => match fr d with
      | .undef => some (upd fr d (.pbox z), G)
      | _ => none
    | none => none
  | .store n x v => (gcells fr v).bind fun vs =>
    if vs.length = n then
      match x.ev fr with
      | .pptr d c => match fr d with
        | .pbox cs => if c + n ≤ cs.length then some (upd fr d (.pbox (splice cs c vs)), G) else none
        | _ => none
      | .ptr id i c => (G.obj id).bind fun es => (es[i]?).bind fun e =>
        if c + n ≤ e.length then some (fr, ⟨G.next, updO G.obj id (some (es.set i (splice e c vs)))⟩) else none
      | _ => none
    else none
  | .free t => match fr t with
    | .ptr id _ _ => some (fr, ⟨G.next, updO G.obj id none⟩)
    | .slice id _ _ => some (fr, ⟨G.next, updO G.obj id none⟩)
    | _ => none
  | .again t o => (evOp call mt fr G o).bind fun r => if r.1 = fr t then some (fr, G) else none
  | op => (evOp call mt fr G op).bind fun r => some (put fr i.dst r.1, r.2)

noncomputable def evI (call : CallF) (mt : Nat → Nat → Option Nat) (i : AI) (fr : Fr) (G : AG) : Option (Fr × AG) :=
  match i.grd with
  | none => evD call mt i fr G
  | some (s, want) => match fr s with
    | .bool b => if b = want then evD call mt i fr G else some (put fr i.dst (.tuple []), G)
    | .tuple [] => some (put fr i.dst (.tuple []), G)
    | _ => none
noncomputable def evIs (call : CallF) (mt : Nat → Nat → Option Nat) : List AI → Fr → AG → Option (Fr × AG)
  | [], fr, G => some (fr, G)
  | i :: is, fr, G => (evI call mt i fr G).bind fun s => evIs call mt is s.1 s.2

/-- Only what is named is kept, and no address of the frame. -/
def kv : AVal → AVal
  | .pptr _ _ => .undef
  | v => v
def kp : List Nat → Fr → Fr
  | [], _ => fr0
  | d :: ds, fr => upd (kp ds fr) d (kv (fr d))

inductive Ex where
  | normal | ret
  | exit (id : Nat)
  deriving DecidableEq, Inhabited

abbrev St3 := Ex × Fr × AG
def iter (g : Fr → AG → Option St3) : Nat → Fr → AG → Option St3
  | 0, _, _ => none
  | n + 1, fr, G => (g fr G).bind fun r => if r.1 = .normal then iter g n r.2.1 r.2.2 else some r
noncomputable def evC (call : CallF) (mt : Nat → Nat → Option Nat) (fuel : Nat) : AC → Fr → AG → Option St3
  | .skip, fr, G => some (.normal, fr, G)
  | .ret, fr, G => some (.ret, fr, G)
  | .exit id, fr, G => some (.exit id, fr, G)
  | .seq a b, fr, G => (evC call mt fuel a fr G).bind fun r => if r.1 = .normal then evC call mt fuel b r.2.1 r.2.2 else some r
  | .cond c a b, fr, G => match c.ev fr with
    | .bool t => if t = true then evC call mt fuel a fr G else evC call mt fuel b fr G
    | _ => none
  | .block id a, fr, G => (evC call mt fuel a fr G).bind fun r => some (if r.1 = .exit id then .normal else r.1, r.2)
  | .loop a, fr, G => iter (evC call mt fuel a) fuel fr G
  | .reg ops ks, fr, G => (evIs call mt ops fr G).bind fun s => some (.normal, kp ks s.1, s.2)

def resV (fr : Fr) : ARes → Option AVal
  | .t n => gv (fr n)
  | .c d k => match fr d with
    | .pbox cs => ldv k cs 0
    | _ => none
def resVs (fr : Fr) : List ARes → Option (List AVal)
  | [] => some []
  | x :: xs => (resV fr x).bind fun v => (resVs fr xs).bind fun vs => some (v :: vs)
def resAll (res : List ARes) (fr : Fr) : Option AVal :=
  match res with
  | [x] => resV fr x
  | xs => (resVs fr xs).map .tuple
def argFr : Nat → List AVal → Fr
  | _, [] => fr0
  | n, v :: vs => upd (argFr (n + 1) vs) n v

noncomputable def runF (AP : Nat → Option AFn) (mt : Nat → Nat → Option Nat) : Nat → CallF
  | 0 => fun _ _ _ => none
  | n + 1 => fun f as G =>
    (AP f).bind fun fn => if as.length = fn.np then
      (evC (runF AP mt n) mt n fn.body (argFr 0 as) G).bind fun r =>
        match r.1 with
        | .exit _ => none
        | _ => (resAll fn.res r.2.1).bind fun v => some (v, r.2.2)
    else none
end Go.Ai
