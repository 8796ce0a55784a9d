/- The abstract machine: values without addresses, a heap of numbered objects, lowered code, a run with fuel. The run without fuel: the limit of the runs, and its equations. Equations by which an abstract run is worked out, step by step; what is still to be done is a row of data, so that nothing is looked at ahead of its time. -/
import GoSem.Core.Next
namespace Go.Ai

inductive AVal where
  | undef
  | int (k : IntKind) (n : Int)
  | bool (b : Bool)
  | str (s : ByteArray)
  | nilp
  | ptr (id i c : Nat)
  | pptr (d c : Nat)
  | pbox (cs : List AVal)
  | nils
  | slice (id off len : Nat)
  | list (es : List (List AVal))
  | iptr (es : List (List AVal)) (i c : Nat)
  | func (f : Nat) (caps : List AVal)
  | nilf
  | iface (tag : Nat) (v : AVal)
  | nili
  | agg (cs : List AVal)
  | tuple (vs : List AVal)
  /-- a method value that is not nil; one of both truth values -/
  | meth
  | anyb
  deriving Inhabited

abbrev Obj' := List (List AVal)
abbrev Heap' := Nat → Option Obj'
structure AG where
  next : Nat
  obj : Heap'
abbrev Fr := Nat → AVal
def fr0 : Fr := fun _ => .undef
def noObj : Heap' := fun _ => none
def upd (fr : Fr) (d : Nat) (v : AVal) : Fr := fun t => if t = d then v else fr t
def updO (g : Heap') (d : Nat) (v : Option Obj') : Heap' := fun t => if t = d then v else g t
def ovr (g h : Heap') : Heap' := fun t => (h t).or (g t)

/-- What stands for a slot as an operand: a struct variable of the frame stands for its address. -/
def pv (d : Nat) : AVal → AVal
  | .pbox _ => .pptr d 0
  | v => v
/-- A value that may be handed on (no address of the frame). -/
def gv : AVal → Option AVal
  | .pptr _ _ | .pbox _ | .undef => none
  | v => some v
def cellsOf : AVal → Option (List AVal)
  | .agg cs => some cs
  | .tuple _ | .pptr _ _ | .pbox _ | .undef => none
  | v => some [v]

inductive Opd where
  | t (n : Nat)
  | c (v : AVal)
  deriving Inhabited
def Opd.ev (fr : Fr) : Opd → AVal
  | .t n => pv n (fr n)
  | .c v => v
def Opd.gev (fr : Fr) (x : Opd) : Option AVal := gv (x.ev fr)
def gevs (fr : Fr) : List Opd → Option (List AVal)
  | [] => some []
  | x :: xs => (x.gev fr).bind fun v => (gevs fr xs).bind fun vs => some (v :: vs)
def gcells (fr : Fr) (x : Opd) : Option (List AVal) := (x.gev fr).bind cellsOf
def gcellss (fr : Fr) : List Opd → Option (List (List AVal))
  | [] => some []
  | x :: xs => (gcells fr x).bind fun v => (gcellss fr xs).bind fun vs => some (v :: vs)

inductive CM where
  | whole
  | alone (snap fz : Bool)
  deriving DecidableEq, Inhabited

/-- What '==' compares: truth values, structs of whole numbers (true) and truth values (false), a function and nil. -/
inductive EqK where
  | b
  | st (ks : List Bool)
  | f
  deriving Inhabited
inductive AOp where
  | mv (x : Opd)
  | pick (c a b : Opd)
  | boxP (x : Opd) | boxH (x : Opd)
  | allocP (z : List AVal) | allocH (z : List AVal)
  | build (z : List AVal) (ps : List (Nat × Nat × Opd))
  | litI (z : Nat) (ps : List Opd) | litO (z : Nat) (ps : List Opd)
  | load (k : Option Nat) (x : Opd)
  | store (n : Nat) (x v : Opd)
  | nilck (x : Opd)
  | bin (op : BinOp) (x y : Opd)
  | eqk (k : EqK) (neg : Bool) (x y : Opd)
  | nt (x : Opd)
  | neg (x : Opd)
  | fld (off : Nat) (x : Opd)
  | idx (z : Nat) (x i : Opd)
  | ext (x : Opd) (i : Nat)
  | fieldv (off : Nat) (k : Option Nat) (x : Opd)
  | len (x : Opd)
  | slen (x : Opd)
  | app (z bytes : Nat) (x y : Opd)
  | call (m : CM) (f : Nat) (as : List Opd)
  | callv (m : CM) (x : Opd) (as : List Opd)
  | inv (x : Opd) (name : Nat) (as : List Opd)
  | mkf (f : Nat) (caps : List Opd)
  | mki (tag : Nat) (x : Opd)
  | mks (z : List AVal) (bytes : Nat) (n : Opd)
  | sl (z : Nat) (x : Opd) (lo hi : Option Opd)
  /-- x[:0:0], x == nil, a method value of an interface -/
  | sl0 (x : Opd)
  | isnil (neg : Bool) (x : Opd)
  | mkm (x : Opd)
  | conv (k : IntKind) (x : Opd)
  | mxn (mx : Bool) (xs : List Opd)
  | cpy (z : Nat) (x y : Opd)
  -- no operation of the program: hints
  | free (t : Nat)
  | fz (t : Nat)
  | fzb (t c : Nat)
  | again (t : Nat) (o : AOp)
  deriving Inhabited

structure AI where
  j : Nat
  dst : Option Nat
  grd : Option (Nat × Bool)
  op : AOp
  deriving Inhabited

inductive AC where
  | skip | ret
  | seq (a b : AC)
  | cond (c : Opd) (a b : AC)
  | block (id : Nat) (a : AC)
  | loop (a : AC)
  | exit (id : Nat)
  | reg (ops : List AI) (ks : List Nat)
  deriving Inhabited

inductive ARes where
  | t (n : Nat)
  | c (d : Nat) (k : Option Nat)
  deriving Inhabited
structure AFn where
  np : Nat
  nt : Nat
  bx : List Nat
  res : List ARes
  body : AC
  deriving Inhabited

/-- A table of methods: type, name, function. -/
def mtOf (l : List (Nat × Nat × Nat)) (tag name : Nat) : Option Nat := (l.find? fun e => e.1 == tag && e.2.1 == name).map (·.2.2)
/-! ## operations on values -/
def intBin (op : BinOp) (k : IntKind) (a b : Int) : Option AVal :=
  match op with
  | .add => some (.int k (k.wrap (a + b)))
  | .sub => some (.int k (k.wrap (a - b)))
  | .mul => some (.int k (k.wrap (a * b)))
  | .quo => if b = 0 then none else some (.int k (k.wrap (a.tdiv b)))
  | .rem => if b = 0 then none else some (.int k (a.tmod b))
  | .xor => some (.int k (k.wrap (BitVec.ofInt k.bits a ^^^ BitVec.ofInt k.bits b).toNat))
  | .eql => some (.bool (decide (a = b)))
  | .neq => some (.bool (!decide (a = b)))
  | .lss => some (.bool (decide (a < b)))
  | .leq => some (.bool (decide (a ≤ b)))
  | .gtr => some (.bool (decide (b < a)))
  | .geq => some (.bool (decide (b ≤ a)))
  | _ => none
def eqks : List Bool → List AVal → List AVal → Option Bool
  | [], [], [] => some true
  | true :: ks, .int k a :: xs, .int k' b :: ys => if k = k' then (eqks ks xs ys).map fun r => decide (a = b) && r else none
  | false :: ks, .bool a :: xs, .bool b :: ys => (eqks ks xs ys).map fun r => (a == b) && r
  | _, _, _ => none
def eqv (k : EqK) (x y : AVal) : Option Bool :=
  match k, x, y with
  | .b, .bool a, .bool b => some (a == b)
  | .st ks, .agg xs, .agg ys => eqks ks xs ys
  | .f, .nilf, .nilf => some true
  | .f, .func _ _, .nilf => some false
  | .f, .nilf, .func _ _ => some false
  | _, _, _ => none
def binv (op : BinOp) (x y : AVal) : Option AVal :=
  match x, y with
  | .int k a, .int k' b => if k = k' then intBin op k a b else none
  | _, _ => none
def eqkv (k : EqK) (neg : Bool) (x y : AVal) : Option AVal := (eqv k x y).map fun b => .bool (if neg then !b else b)
/-- What is read at cell c of an element: one cell, or so many together. -/
def ldv (k : Option Nat) (e : List AVal) (c : Nat) : Option AVal :=
  match k with
  | none => e[c]?
  | some n => if c + n ≤ e.length then some (.agg ((e.drop c).take n)) else none
def splice : List AVal → Nat → List AVal → List AVal
  | xs, 0, [] => xs
  | [], _, _ => []
  | _ :: xs, 0, v :: vs => v :: splice xs 0 vs
  | x :: xs, c + 1, vs => x :: splice xs c vs
def fillB : List AVal → List (Nat × List AVal) → List AVal
  | cs, [] => cs
  | cs, (o, vs) :: r => fillB (splice cs o vs) r
def partsOf (fr : Fr) : List (Nat × Nat × Opd) → Option (List (Nat × List AVal))
  | [] => some []
  | (o, n, x) :: r => (gcells fr x).bind fun vs => if vs.length = n then (partsOf fr r).bind fun t => some ((o, vs) :: t) else none
def boundOf (x : Option AVal) (d : Nat) : Option Nat :=
  match x with
  | none => some d
  | some (.int _ n) => if 0 ≤ n then some n.toNat else none
  | _ => none
def omap {α β : Type} (f : α → Option β) : List α → Option (List β)
  | [] => some []
  | x :: xs => (f x).bind fun y => (omap f xs).bind fun ys => some (y :: ys)
/-- Written out: all that a value leads to, read only. -/
def frz : Nat → Heap' → AVal → Option AVal
  | 0, _, _ => none
  | d + 1, g, v =>
    match v with
    | .nils => some (.list [])
    | .slice id off len => (g id).bind fun es => if off + len ≤ es.length then (omap (omap (frz d g)) ((es.drop off).take len)).map .list else none
    | .ptr id i c => (g id).bind fun es => (omap (omap (frz d g)) es).map fun es' => .iptr es' i c
    | .agg cs => (omap (frz d g) cs).map .agg
    | .tuple vs => (omap (frz d g) vs).map .tuple
    | .func f caps => (omap (frz d g) caps).map (.func f)
    | .iface t v => (frz d g v).map (.iface t)
    | .undef | .pptr _ _ | .pbox _ => none
    | v => some v
def frzs (g : Heap') (vs : List AVal) : Option (List AVal) := omap (frz 8 g) vs
/-- No read only list, and nothing that leads to one. -/
def noImm : AVal → Bool
  | .int _ _ | .bool _ | .str _ | .nilp | .ptr _ _ _ | .nils | .slice _ _ _ | .nilf | .nili => true
  | .agg cs => noImms cs
  | .tuple vs => noImms vs
  | _ => false
where noImms : List AVal → Bool
  | [] => true
  | v :: vs => noImm v && noImms vs
def noImmO (g : Heap') : Prop := ∀ id es, g id = some es → ∀ e ∈ es, ∀ c ∈ e, noImm c = true

def maxA : Nat := 1099511627776

abbrev CallF := Nat → List AVal → AG → Option (AVal × AG)

/-- A call, by its kind. -/
noncomputable def callBy (call : CallF) (m : CM) (f : Nat) (as : List AVal) (G : AG) : Option (AVal × AG) :=
  match m with
  | .whole => call f as G
  | .alone snap fz =>
    (frzs (if snap then G.obj else noObj) as).bind fun as' =>
    (call f as' ⟨G.next, noObj⟩).bind fun r =>
    open Classical in
    if G.next ≤ r.2.next then
      if fz then (frz 8 r.2.obj r.1).bind fun v => if snap = false ∨ noImm v = true then some (v, ⟨r.2.next, G.obj⟩) else none
      else if snap = false ∨ (noImm r.1 = true ∧ noImmO r.2.obj) then some (r.1, ⟨r.2.next, ovr G.obj r.2.obj⟩) else none
    else none

/-- What an append or a copy takes from. -/
def srcOf (g : Heap') : AVal → Option Obj'
  | .list es => some es
  | .nils => some []
  | .slice id off len => (g id).bind fun es => if off + len ≤ es.length then some ((es.drop off).take len) else none
  | _ => none
open Classical in
noncomputable def appV (z bytes : Nat) (x y : AVal) (G : AG) : Option (AVal × AG) :=
  (srcOf G.obj y).bind fun ns =>
    if (∀ e ∈ ns, e.length = z) then
      match x with
      | .nils => if ns = [] then some (.nils, G) else if ns.length * bytes ≤ maxA then some (.slice G.next 0 ns.length, ⟨G.next + 1, updO G.obj G.next (some ns)⟩) else none
      | .slice id 0 len => (G.obj id).bind fun es =>
        if es.length = len ∧ es ≠ [] ∧ (∀ e ∈ es, e.length = z) ∧ (len + ns.length) * bytes ≤ maxA then
          some (.slice G.next 0 (len + ns.length), ⟨G.next + 1, updO (updO G.obj id none) G.next (some (es ++ ns))⟩)
        else none
      | _ => none
    else none

open Classical in
/-- An operation that gives a value. -/
noncomputable def evOp (call : CallF) (mt : Nat → Nat → Option Nat) (fr : Fr) (G : AG) : AOp → Option (AVal × AG)
  | .mv x => some (x.ev fr, G)
  | .pick c a b =>
    match c.ev fr, a.ev fr, b.ev fr with
    | .bool t, .bool x, .bool y => some (.bool (if t then x else y), G)
    | .bool t, x, y => some (if t then x else y, G)
    | _, _, _ => none
  | .boxH x => (gcells fr x).bind fun cs => if cs = [] then none else some (.ptr G.next 0 0, ⟨G.next + 1, updO G.obj G.next (some [cs])⟩)
  | .allocH z => some (.ptr G.next 0 0, ⟨G.next + 1, updO G.obj G.next (some [z])⟩)
  | .build z ps => (partsOf fr ps).bind fun vs => some (.agg (fillB z vs), G)
  | .litI z ps => (gcellss fr ps).bind fun es => if (∀ e ∈ es, e.length = z) then some (.list es, G) else none
  | .litO z ps => (gcellss fr ps).bind fun es => if es = [] then some (.nils, G) else if (∀ e ∈ es, e.length = z) then some (.slice G.next 0 es.length, ⟨G.next + 1, updO G.obj G.next (some es)⟩) else none
  | .load k x =>
    match x.ev fr with
    | .pptr d c => match fr d with
      | .pbox cs => (ldv k cs c).bind fun v => some (v, G)
      | _ => none
    | .ptr id i c => (G.obj id).bind fun es => (es[i]?).bind fun e => (ldv k e c).bind fun v => some (v, G)
    | .iptr es i c => (es[i]?).bind fun e => (ldv k e c).bind fun v => some (v, G)
    | _ => none
  | .nilck x =>
    match x.ev fr with
    | .pptr d c => some (.pptr d c, G)
    | .ptr id i c => some (.ptr id i c, G)
    | .iptr es i c => some (.iptr es i c, G)
    | .func f cs => some (.func f cs, G)
    | .iface t v => some (.iface t v, G)
    | .meth => some (.meth, G)
    | _ => none
  | .bin op x y => (x.gev fr).bind fun a => (y.gev fr).bind fun b => (binv op a b).bind fun v => some (v, G)
  | .eqk k neg x y => (x.gev fr).bind fun a => (y.gev fr).bind fun b => (eqkv k neg a b).bind fun v => some (v, G)
  | .nt x => match x.ev fr with
    | .bool b => some (.bool (!b), G)
    | _ => none
  | .neg x => match x.ev fr with
    | .int k n => some (.int k (k.wrap (0 - n)), G)
    | _ => none
  | .fld off x =>
    match x.ev fr with
    | .pptr d c => some (.pptr d (c + off), G)
    | .ptr id i c => some (.ptr id i (c + off), G)
    | .iptr es i c => some (.iptr es i (c + off), G)
    | _ => none
  | .idx z x i =>
    match x.ev fr, i.ev fr with
    | .list es, .int _ n => if 0 ≤ n ∧ n < es.length ∧ (∀ e ∈ es, e.length = z) then some (.iptr es n.toNat 0, G) else none
    | .slice id off len, .int _ n => if 0 ≤ n ∧ n < len then (G.obj id).bind fun es => (es[off + n.toNat]?).bind fun e => if e.length = z then some (.ptr id (off + n.toNat) 0, G) else none else none
    | _, _ => none
  | .ext x i => match x.ev fr with
    | .tuple vs => (vs[i]?).bind fun v => some (v, G)
    | _ => none
  | .fieldv off k x => match x.ev fr with
    | .agg cs => (ldv k cs off).bind fun v => some (v, G)
    | _ => none
  | .len x => match x.ev fr with
    | .list es => some (.int .i64 es.length, G)
    | .nils => some (.int .i64 0, G)
    | .slice _ _ n => some (.int .i64 n, G)
    | _ => none
  | .slen x => match x.ev fr with
    | .str s => some (.int .i64 s.size, G)
    | _ => none
  | .app z bytes x y => appV z bytes (x.ev fr) (y.ev fr) G
  | .call m f as => (gevs fr as).bind fun vs => callBy call m f vs G
  | .callv m x as => match x.ev fr with
    | .func f caps => (gevs fr as).bind fun vs => callBy call m f (vs ++ caps) G
    | _ => none
  | .inv x name as => match x.ev fr with
    | .iface tag v => (mt tag name).bind fun f => (gevs fr as).bind fun vs => callBy call .whole f (v :: vs) G
    | _ => none
  | .mkf f caps => (gevs fr caps).bind fun cs => some (.func f cs, G)
  | .mki tag x => (x.gev fr).bind fun v => some (.iface tag v, G)
  | .mks z bytes n => match n.ev fr with
    | .int .i64 m => if m = 0 then some (.nils, G) else if 0 ≤ m ∧ m * bytes ≤ maxA then some (.slice G.next 0 m.toNat, ⟨G.next + 1, updO G.obj G.next (some (List.replicate m.toNat z))⟩) else none
    | _ => none
  | .sl z x lo hi =>
    match x.ev fr with
    | .list es => (boundOf (lo.map (·.ev fr)) 0).bind fun l => (boundOf (hi.map (·.ev fr)) es.length).bind fun h =>
      if l ≤ h ∧ h ≤ es.length ∧ (∀ e ∈ es, e.length = z) then some (.list ((es.drop l).take (h - l)), G) else none
    | .slice id off len => (boundOf (lo.map (·.ev fr)) 0).bind fun l => (boundOf (hi.map (·.ev fr)) len).bind fun h =>
      if l ≤ h ∧ h ≤ len then (G.obj id).bind fun es => if es ≠ [] ∧ (∀ e ∈ es, e.length = z) then some (.slice id (off + l) (h - l), G) else none else none
    | .nils => (boundOf (lo.map (·.ev fr)) 0).bind fun l => (boundOf (hi.map (·.ev fr)) 0).bind fun h => if l = 0 ∧ h = 0 then some (.nils, G) else none
    | _ => none
  | .sl0 x => match x.ev fr with
    | .list _ | .slice _ _ _ | .nils => some (.nils, G)
    | _ => none
  | .isnil neg x => match x.ev fr with
    | .list es => some (if es = [] then .anyb else .bool neg, G)
    | .slice _ _ n => some (if n = 0 then .anyb else .bool neg, G)
    | .nils => some (.anyb, G)
    | _ => none
  | .mkm x => match x.ev fr with
    | .iface _ _ => some (.meth, G)
    | _ => none
  | .fz t => match pv t (fr t) with
    | .nils => some (.list [], G)
    | .slice id off len => (G.obj id).bind fun es => if off + len ≤ es.length then some (.list ((es.drop off).take len), ⟨G.next, updO G.obj id none⟩) else none
    | _ => none
  | .conv k x => match x.ev fr with
    | .int _ n => some (.int k (k.wrap n), G)
    | _ => none
  | .mxn mx xs => (gevs fr xs).bind fun vs =>
    match vs with
    | [.int k a, .int k' b] => if k = k' then some (.int k (if mx then (if b > a then b else a) else (if b < a then b else a)), G) else none
    | _ => none
  | .cpy z x y =>
    (srcOf G.obj (y.ev fr)).bind fun ns =>
      if (∀ e ∈ ns, e.length = z) then
        match x.ev fr with
        | .nils => some (.int .i64 0, G)
        | .slice id 0 len => (G.obj id).bind fun es =>
          if len ≤ es.length ∧ es ≠ [] ∧ (∀ e ∈ es, e.length = z) then
            some (.int .i64 (min ns.length len : Nat), ⟨G.next, updO G.obj id (some (ns.take (min ns.length len) ++ es.drop (min ns.length len)))⟩)
          else none
        | _ => none
      else none
  | _ => none

def put (fr : Fr) (d : Option Nat) (v : AVal) : Fr := match d with
  | some d => upd fr d v
  | none => fr

open Classical in
/-- An operation, its guard not looked at. -/
noncomputable def evD (call : CallF) (mt : Nat → Nat → Option Nat) (i : AI) (fr : Fr) (G : AG) : Option (Fr × AG) :=
  match i.op with
  | .boxP x => match i.dst with
    | some d => match fr d with
      | .undef => (gcells fr x).bind fun cs => some (upd fr d (.pbox cs), G)
      | _ => none
    | none => none
  | .allocP z => match i.dst with
    | some d => match fr d with
      | .undef => some (upd fr d (.pbox z), G)
      | _ => none
    | none => none
  | .store n x v => (gcells fr v).bind fun vs =>
    if vs.length = n then
      match x.ev fr with
      | .pptr d c => match fr d with
        | .pbox cs => if c + n ≤ cs.length then some (upd fr d (.pbox (splice cs c vs)), G) else none
        | _ => none
      | .ptr id i c => (G.obj id).bind fun es => (es[i]?).bind fun e =>
        if c + n ≤ e.length then some (fr, ⟨G.next, updO G.obj id (some (es.set i (splice e c vs)))⟩) else none
      | _ => none
    else none
  | .free t => match fr t with
    | .ptr id _ _ => some (fr, ⟨G.next, updO G.obj id none⟩)
    | .slice id _ _ => some (fr, ⟨G.next, updO G.obj id none⟩)
    | _ => none
  | .fzb t c => match fr t with
    | .pbox cs => match cs[c]? with
      | some .nils => some (upd fr t (.pbox (splice cs c [.list []])), G)
      | some (.slice id off len) => (G.obj id).bind fun es => if off + len ≤ es.length then some (upd fr t (.pbox (splice cs c [.list ((es.drop off).take len)])), ⟨G.next, updO G.obj id none⟩) else none
      | _ => none
    | _ => none
  | .again t o => (evOp call mt fr G o).bind fun r => if r.1 = fr t then some (fr, G) else none
  | op => (evOp call mt fr G op).bind fun r => some (put fr i.dst r.1, r.2)

noncomputable def evI (call : CallF) (mt : Nat → Nat → Option Nat) (i : AI) (fr : Fr) (G : AG) : Option (Fr × AG) :=
  match i.grd with
  | none => evD call mt i fr G
  | some (s, want) => match fr s with
    | .bool b => if b = want then evD call mt i fr G else some (put fr i.dst (.tuple []), G)
    | .tuple [] => some (put fr i.dst (.tuple []), G)
    | _ => none
noncomputable def evIs (call : CallF) (mt : Nat → Nat → Option Nat) : List AI → Fr → AG → Option (Fr × AG)
  | [], fr, G => some (fr, G)
  | i :: is, fr, G => (evI call mt i fr G).bind fun s => evIs call mt is s.1 s.2

/-- Only what is named is kept, and no address of the frame. -/
def kv : AVal → AVal
  | .pptr _ _ => .undef
  | v => v
def kp : List Nat → Fr → Fr
  | [], _ => fr0
  | d :: ds, fr => upd (kp ds fr) d (kv (fr d))

inductive Ex where
  | normal | ret
  | exit (id : Nat)
  deriving DecidableEq, Inhabited

abbrev St3 := Ex × Fr × AG
def iter (g : Fr → AG → Option St3) : Nat → Fr → AG → Option St3
  | 0, _, _ => none
  | n + 1, fr, G => (g fr G).bind fun r => if r.1 = .normal then iter g n r.2.1 r.2.2 else some r
open Classical in
noncomputable def evC (call : CallF) (mt : Nat → Nat → Option Nat) (fuel : Nat) : AC → Fr → AG → Option St3
  | .skip, fr, G => some (.normal, fr, G)
  | .ret, fr, G => some (.ret, fr, G)
  | .exit id, fr, G => some (.exit id, fr, G)
  | .seq a b, fr, G => (evC call mt fuel a fr G).bind fun r => if r.1 = .normal then evC call mt fuel b r.2.1 r.2.2 else some r
  | .cond c a b, fr, G => match c.ev fr with
    | .bool t => if t = true then evC call mt fuel a fr G else evC call mt fuel b fr G
    | .anyb => (evC call mt fuel a fr G).bind fun r => (evC call mt fuel b fr G).bind fun s => if r = s then some r else none
    | _ => none
  | .block id a, fr, G => (evC call mt fuel a fr G).bind fun r => some (if r.1 = .exit id then .normal else r.1, r.2)
  | .loop a, fr, G => iter (evC call mt fuel a) fuel fr G
  | .reg ops ks, fr, G => (evIs call mt ops fr G).bind fun s => some (.normal, kp ks s.1, s.2)

def resV (fr : Fr) : ARes → Option AVal
  | .t n => gv (fr n)
  | .c d k => match fr d with
    | .pbox cs => ldv k cs 0
    | _ => none
def resVs (fr : Fr) : List ARes → Option (List AVal)
  | [] => some []
  | x :: xs => (resV fr x).bind fun v => (resVs fr xs).bind fun vs => some (v :: vs)
def resAll (res : List ARes) (fr : Fr) : Option AVal :=
  match res with
  | [x] => resV fr x
  | xs => (resVs fr xs).map .tuple
def argFr : Nat → List AVal → Fr
  | _, [] => fr0
  | n, v :: vs => upd (argFr (n + 1) vs) n v

noncomputable def runF (AP : Nat → Option AFn) (mt : Nat → Nat → Option Nat) : Nat → CallF
  | 0 => fun _ _ _ => none
  | n + 1 => fun f as G =>
    (AP f).bind fun fn => if as.length = fn.np then
      (evC (runF AP mt n) mt n fn.body (argFr 0 as) G).bind fun r =>
        match r.1 with
        | .exit _ => none
        | _ => (resAll fn.res r.2.1).bind fun v => some (v, r.2.2)
    else none
end Go.Ai
namespace Go.Ai

def Mono {α : Type} (f : Nat → Option α) : Prop := ∀ n m r, n ≤ m → f n = some r → f m = some r
open Classical in
noncomputable def lim {α : Type} (f : Nat → Option α) : Option α := if h : ∃ n r, f n = some r then f h.choose else none

theorem lim_some {α : Type} {f : Nat → Option α} (hf : Mono f) {r : α} : lim f = some r ↔ ∃ n, f n = some r := by
  unfold lim
  constructor
  · intro h
    split at h
    · rename_i hh; exact ⟨_, h⟩
    · cases h
  · rintro ⟨n, hn⟩
    have hh : ∃ n r, f n = some r := ⟨n, r, hn⟩
    rw [dif_pos hh]
    obtain ⟨r', hr'⟩ := hh.choose_spec
    have h1 := hf _ (max n hh.choose) _ (by omega) hn
    have h2 := hf _ (max n hh.choose) _ (by omega) hr'
    rw [hr']; rw [h1] at h2; exact h2.symm

theorem opt_ext {α : Type} {x y : Option α} (h : ∀ r, x = some r ↔ y = some r) : x = y := by
  cases x with
  | none => cases y with
    | none => rfl
    | some b => exact absurd ((h b).2 rfl) (by simp)
  | some a => exact ((h a).1 rfl).symm

theorem Mono.const {α : Type} (x : Option α) : Mono (fun _ => x) := fun _ _ _ _ h => h
theorem lim_const {α : Type} (x : Option α) : lim (fun _ => x) = x := opt_ext fun r => by rw [lim_some (Mono.const x)]; simp
theorem Mono.bind {α β : Type} {f : Nat → Option α} {g : Nat → α → Option β} (hf : Mono f) (hg : ∀ a, Mono fun n => g n a) : Mono (fun n => (f n).bind (g n)) := by
  intro n m r h hr
  simp only [Option.bind_eq_some_iff] at hr ⊢
  obtain ⟨a, ha, hb⟩ := hr
  exact ⟨a, hf _ _ _ h ha, hg a _ _ _ h hb⟩
theorem lim_bind {α β : Type} {f : Nat → Option α} {g : Nat → α → Option β} (hf : Mono f) (hg : ∀ a, Mono fun n => g n a) :
    lim (fun n => (f n).bind (g n)) = (lim f).bind fun a => lim fun n => g n a := opt_ext fun r => by
  rw [lim_some (Mono.bind hf hg)]
  simp only [Option.bind_eq_some_iff]
  constructor
  · rintro ⟨n, a, ha, hb⟩
    exact ⟨a, (lim_some hf).2 ⟨n, ha⟩, (lim_some (hg a)).2 ⟨n, hb⟩⟩
  · rintro ⟨a, ha, hb⟩
    obtain ⟨n, hn⟩ := (lim_some hf).1 ha
    obtain ⟨m, hm⟩ := (lim_some (hg a)).1 hb
    exact ⟨max n m, a, hf _ _ _ (by omega) hn, hg a _ _ _ (by omega) hm⟩
theorem lim_bind_c {α β : Type} {f : Nat → Option α} (hf : Mono f) (g : α → Option β) : lim (fun n => (f n).bind g) = (lim f).bind g := by
  rw [lim_bind (g := fun _ => g) hf fun a => Mono.const _]
  congr 1; funext a; exact lim_const _
theorem Mono.ite {α : Type} {c : Prop} [Decidable c] {f g : Nat → Option α} (hf : Mono f) (hg : Mono g) : Mono (fun n => if c then f n else g n) := by
  split <;> assumption
theorem lim_ite {α : Type} {c : Prop} [Decidable c] {f g : Nat → Option α} : lim (fun n => if c then f n else g n) = if c then lim f else lim g := by
  split <;> rfl

/-- What uses a call: it follows a rising row of calls, to its limit. -/
structure Fin' {α : Type} (c : Nat → CallF) (l : CallF) (F : CallF → Option α) : Prop where
  mono : Mono fun n => F (c n)
  lim : lim (fun n => F (c n)) = F l
section
variable {α β : Type} {c : Nat → CallF} {l : CallF}
theorem Fin'.const (x : Option α) : Fin' c l (fun _ => x) := ⟨Mono.const x, lim_const x⟩
theorem Fin'.bind {F : CallF → Option α} {H : CallF → α → Option β} (hF : Fin' c l F) (hH : ∀ a, Fin' c l fun k => H k a) : Fin' c l (fun k => (F k).bind (H k)) :=
  ⟨Mono.bind hF.mono fun a => (hH a).mono, by
    rw [lim_bind hF.mono fun a => (hH a).mono, hF.lim]
    congr 1; funext a; exact (hH a).lim⟩
theorem Fin'.ite {p : Prop} [Decidable p] {F H : CallF → Option α} (hF : Fin' c l F) (hH : Fin' c l H) : Fin' c l (fun k => if p then F k else H k) := by
  split <;> assumption
theorem Fin'.app (hm : ∀ f as G, Mono fun n => c n f as G) (hl : ∀ f as G, Go.Ai.lim (fun n => c n f as G) = l f as G) (f : Nat) (as : List AVal) (G : AG) : Fin' c l (fun k => k f as G) := ⟨hm f as G, hl f as G⟩

variable (hm : ∀ f as G, Mono fun n => c n f as G) (hl : ∀ f as G, Go.Ai.lim (fun n => c n f as G) = l f as G)
include hm hl
theorem Fin'.callBy (m : CM) (f : Nat) (as : List AVal) (G : AG) : Fin' c l (fun k => callBy k m f as G) := by
  cases m with
  | whole => exact Fin'.app hm hl f as G
  | alone s z =>
    unfold Go.Ai.callBy
    exact .bind (.const _) fun as' => .bind (Fin'.app hm hl _ _ _) fun r => .const _
theorem Fin'.evOp (mt : Nat → Nat → Option Nat) (fr : Fr) (G : AG) (o : AOp) : Fin' c l (fun k => evOp k mt fr G o) := by
  cases o
  case call m f as => exact .bind (.const _) fun vs => Fin'.callBy hm hl m f vs G
  case callv m x as =>
    simp only [Go.Ai.evOp]
    split
    · exact .bind (.const _) fun vs => Fin'.callBy hm hl m _ _ G
    · exact .const _
  case inv x name as =>
    simp only [Go.Ai.evOp]
    split
    · exact .bind (.const _) fun f => .bind (.const _) fun vs => Fin'.callBy hm hl .whole _ _ G
    · exact .const _
  all_goals exact .const _
theorem Fin'.evD (mt : Nat → Nat → Option Nat) (i : AI) (fr : Fr) (G : AG) : Fin' c l (fun k => evD k mt i fr G) := by
  obtain ⟨j, dst, grd, op⟩ := i
  cases op
  case again t o => exact .bind (Fin'.evOp hm hl mt fr G o) fun _ => .const _
  case boxP x => exact .const _
  case allocP x => exact .const _
  case store n x v => exact .const _
  case free t => exact .const _
  case fzb t c => exact .const _
  all_goals first | exact .bind (Fin'.evOp hm hl mt fr G _) fun _ => .const _ | exact .const _
theorem Fin'.evI (mt : Nat → Nat → Option Nat) (i : AI) (fr : Fr) (G : AG) : Fin' c l (fun k => evI k mt i fr G) := by
  unfold Go.Ai.evI
  split
  · exact Fin'.evD hm hl mt i fr G
  · split
    · exact .ite (Fin'.evD hm hl mt i fr G) (.const _)
    · exact .const _
    · exact .const _
theorem Fin'.evIs (mt : Nat → Nat → Option Nat) (is : List AI) : ∀ (fr : Fr) (G : AG), Fin' c l (fun k => evIs k mt is fr G) := by
  induction is with
  | nil => exact fun _ _ => .const _
  | cons i is ih => exact fun fr G => .bind (Fin'.evI hm hl mt i fr G) fun s => ih s.1 s.2
end

section
variable {c : Nat → CallF} {l : CallF} (hm : ∀ f as G, Mono fun n => c n f as G) (hl : ∀ f as G, lim (fun n => c n f as G) = l f as G) (mt : Nat → Nat → Option Nat)

theorem iter_mono {g h : Fr → AG → Option St3} (hg : ∀ fr G r, g fr G = some r → h fr G = some r) :
    ∀ n m, n ≤ m → ∀ fr G r, iter g n fr G = some r → iter h m fr G = some r := by
  intro n
  induction n with
  | zero => intro m _ fr G r hr; cases hr
  | succ n ih =>
    intro m hm fr G r hr
    obtain ⟨m, rfl⟩ : ∃ k, m = k + 1 := ⟨m - 1, by omega⟩
    simp only [iter, Option.bind_eq_some_iff] at hr ⊢
    obtain ⟨s, hs, hr⟩ := hr
    refine ⟨s, hg _ _ _ hs, ?_⟩
    split
    · rename_i hn; rw [if_pos hn] at hr; exact ih m (by omega) _ _ _ hr
    · rename_i hn; rw [if_neg hn] at hr; exact hr
include hm hl in
theorem evC_mono (a : AC) : ∀ fr G, Mono fun n => evC (c n) mt n a fr G := by
  induction a with
  | skip => exact fun _ _ => Mono.const _
  | ret => exact fun _ _ => Mono.const _
  | exit id => exact fun _ _ => Mono.const _
  | seq a b iha ihb => exact fun fr G => Mono.bind (iha fr G) fun r => Mono.ite (ihb _ _) (Mono.const _)
  | cond x a b iha ihb =>
    intro fr G
    simp only [evC]
    split
    · exact Mono.ite (iha fr G) (ihb fr G)
    · exact Mono.bind (iha fr G) fun r => Mono.bind (ihb fr G) fun s => Mono.const _
    · exact Mono.const _
  | block id a iha => exact fun fr G => Mono.bind (iha fr G) fun r => Mono.const _
  | loop a iha => exact fun fr G n m r h hr => iter_mono (fun fr G r hr => iha fr G n m r h hr) n m h fr G r hr
  | reg ops ks => exact fun fr G => Mono.bind (Fin'.evIs hm hl mt ops fr G).mono fun s => Mono.const _
end

section
variable (AP : Nat → Option AFn) (mt : Nat → Nat → Option Nat)
theorem runF_mono : ∀ n f as G, ∀ r, runF AP mt n f as G = some r → runF AP mt (n + 1) f as G = some r := by
  have key : ∀ n, (∀ f as G r, runF AP mt n f as G = some r → runF AP mt (n + 1) f as G = some r) := by
    intro n
    induction n with
    | zero => intro f as G r h; cases h
    | succ n ih =>
      intro f as G r h
      have hc : ∀ (a : AC) fr G, ∀ r, evC (runF AP mt n) mt n a fr G = some r → evC (runF AP mt (n + 1)) mt (n + 1) a fr G = some r := by
        intro a fr G r hr
        -- a row of two steps
        let c : Nat → CallF := fun k => if k = 0 then runF AP mt n else runF AP mt (n + 1)
        have hm : ∀ f as G, Mono fun k => c k f as G := by
          intro f as G i j r hij hr
          simp only [c] at hr ⊢
          by_cases hi : i = 0
          · rw [if_pos hi] at hr
            by_cases hj : j = 0
            · rw [if_pos hj]; exact hr
            · rw [if_neg hj]; exact ih _ _ _ _ hr
          · rw [if_neg hi] at hr; rw [if_neg (by omega)]; exact hr
        have hops : ∀ (is : List AI) fr G r, evIs (runF AP mt n) mt is fr G = some r → evIs (runF AP mt (n + 1)) mt is fr G = some r := by
          intro is fr G r h
          have := (Fin'.evIs (c := c) (l := fun f as G => lim fun k => c k f as G) hm (fun _ _ _ => rfl) mt is fr G).mono 0 1 r (by omega)
          simp only [c, if_true] at this
          simpa using this h
        induction a generalizing fr G r with
        | skip => exact hr
        | ret => exact hr
        | exit id => exact hr
        | seq a b iha ihb =>
          simp only [evC, Option.bind_eq_some_iff] at hr ⊢
          obtain ⟨s, hs, hr⟩ := hr
          refine ⟨s, iha _ _ _ hs, ?_⟩
          split
          · rename_i hn; rw [if_pos hn] at hr; exact ihb _ _ _ hr
          · rename_i hn; rw [if_neg hn] at hr; exact hr
        | cond x a b iha ihb =>
          simp only [evC] at hr ⊢
          split
          · rename_i t ht
            rw [ht] at hr
            simp only at hr
            split
            · rename_i h1; rw [if_pos h1] at hr; exact iha _ _ _ hr
            · rename_i h1; rw [if_neg h1] at hr; exact ihb _ _ _ hr
          · rename_i ht
            rw [ht] at hr
            simp only [Option.bind_eq_some_iff] at hr ⊢
            obtain ⟨r1, h1, s1, h2, h3⟩ := hr
            exact ⟨r1, iha _ _ _ h1, s1, ihb _ _ _ h2, h3⟩
          · rename_i hh hh2
            split at hr
            · rename_i t ht; exact absurd ht (hh t)
            · rename_i ht; exact absurd ht hh2
            · cases hr
        | block id a iha =>
          simp only [evC, Option.bind_eq_some_iff] at hr ⊢
          obtain ⟨s, hs, hr⟩ := hr
          exact ⟨s, iha _ _ _ hs, hr⟩
        | loop a iha => exact iter_mono (fun fr G r hr => iha fr G r hr) n (n + 1) (by omega) fr G r hr
        | reg ops ks =>
          simp only [evC, Option.bind_eq_some_iff] at hr ⊢
          obtain ⟨s, hs, hr⟩ := hr
          exact ⟨s, hops _ _ _ _ hs, hr⟩
      simp only [runF, Option.bind_eq_some_iff] at h ⊢
      obtain ⟨fn, hfn, h⟩ := h
      refine ⟨fn, hfn, ?_⟩
      split
      · rename_i hlen
        rw [if_pos hlen, Option.bind_eq_some_iff] at h
        obtain ⟨s, hs, h⟩ := h
        rw [Option.bind_eq_some_iff]
        exact ⟨s, hc _ _ _ _ hs, h⟩
      · rename_i hlen
        rw [if_neg hlen] at h
        cases h
  exact fun n f as G r h => key n f as G r h
theorem runF_Mono (f : Nat) (as : List AVal) (G : AG) : Mono fun n => runF AP mt n f as G := by
  intro n m r h hr
  induction m with
  | zero => obtain rfl : n = 0 := by omega
            exact hr
  | succ m ih =>
    by_cases e : n = m + 1
    · subst e; exact hr
    · exact runF_mono AP mt m f as G r (ih (by omega))

noncomputable def run : CallF := fun f as G => lim fun n => runF AP mt n f as G
noncomputable def ev (a : AC) (fr : Fr) (G : AG) : Option St3 := lim fun n => evC (runF AP mt n) mt n a fr G

theorem run_some {f : Nat} {as : List AVal} {G : AG} {r : AVal × AG} : run AP mt f as G = some r ↔ ∃ n, runF AP mt n f as G = some r := lim_some (runF_Mono AP mt f as G)
theorem evm (a : AC) (fr : Fr) (G : AG) : Mono fun n => evC (runF AP mt n) mt n a fr G := evC_mono (l := run AP mt) (runF_Mono AP mt) (fun _ _ _ => rfl) mt a fr G

theorem ev_skip (fr : Fr) (G : AG) : ev AP mt .skip fr G = some (.normal, fr, G) := lim_const _
theorem ev_ret (fr : Fr) (G : AG) : ev AP mt .ret fr G = some (.ret, fr, G) := lim_const _
theorem ev_exit (id : Nat) (fr : Fr) (G : AG) : ev AP mt (.exit id) fr G = some (.exit id, fr, G) := lim_const _
theorem ev_seq (a b : AC) (fr : Fr) (G : AG) : ev AP mt (.seq a b) fr G = (ev AP mt a fr G).bind fun r => if r.1 = .normal then ev AP mt b r.2.1 r.2.2 else some r := by
  show lim (fun n => (evC (runF AP mt n) mt n a fr G).bind fun r => if r.1 = .normal then evC (runF AP mt n) mt n b r.2.1 r.2.2 else some r) = _
  rw [lim_bind (evm AP mt a fr G) fun r => Mono.ite (evm AP mt b _ _) (Mono.const _)]
  congr 1; funext r
  rw [lim_ite, lim_const]
  rfl
open Classical in
/-- Both answer the same. -/
noncomputable def both (x y : Option St3) : Option St3 := x.bind fun r => y.bind fun s => if r = s then some r else none
theorem ev_cond (c : Opd) (a b : AC) (fr : Fr) (G : AG) : ev AP mt (.cond c a b) fr G = match c.ev fr with
    | .bool t => if t = true then ev AP mt a fr G else ev AP mt b fr G
    | .anyb => both (ev AP mt a fr G) (ev AP mt b fr G)
    | _ => none := by
  unfold ev
  simp only [evC]
  cases c.ev fr <;> first | exact lim_const _ | exact lim_ite | skip
  simp only []
  classical
  refine (lim_bind (g := fun n r => (evC (runF AP mt n) mt n b fr G).bind fun s => if r = s then some r else none) (evm AP mt a fr G) fun r => Mono.bind (evm AP mt b fr G) fun s => Mono.const _).trans ?_
  unfold both
  congr 1; funext r
  exact lim_bind_c (evm AP mt b fr G) _
theorem ev_block (id : Nat) (a : AC) (fr : Fr) (G : AG) : ev AP mt (.block id a) fr G = (ev AP mt a fr G).bind fun r => some (if r.1 = .exit id then .normal else r.1, r.2) := by
  show lim (fun n => (evC (runF AP mt n) mt n a fr G).bind fun r => some (if r.1 = .exit id then .normal else r.1, r.2)) = _
  exact lim_bind_c (evm AP mt a fr G) _
theorem ev_reg (ops : List AI) (ks : List Nat) (fr : Fr) (G : AG) : ev AP mt (.reg ops ks) fr G = (evIs (run AP mt) mt ops fr G).bind fun s => some (.normal, kp ks s.1, s.2) := by
  have hF := Fin'.evIs (c := fun n => runF AP mt n) (l := run AP mt) (runF_Mono AP mt) (fun _ _ _ => rfl) mt ops fr G
  show lim (fun n => (evIs (runF AP mt n) mt ops fr G).bind fun s => some (Ex.normal, kp ks s.1, s.2)) = _
  rw [lim_bind_c hF.mono, hF.lim]
theorem ev_loop (a : AC) (fr : Fr) (G : AG) : ev AP mt (.loop a) fr G = (ev AP mt a fr G).bind fun r => if r.1 = .normal then ev AP mt (.loop a) r.2.1 r.2.2 else some r := by
  apply opt_ext
  intro r
  have h1 : ev AP mt (.loop a) fr G = some r ↔ ∃ n, iter (evC (runF AP mt n) mt n a) n fr G = some r := lim_some (evm AP mt (.loop a) fr G)
  rw [h1, Option.bind_eq_some_iff]
  constructor
  · rintro ⟨n, hn⟩
    cases n with
    | zero => cases hn
    | succ n =>
      simp only [iter, Option.bind_eq_some_iff] at hn
      obtain ⟨s, hs, hn⟩ := hn
      refine ⟨s, (lim_some (evm AP mt a fr G)).2 ⟨_, hs⟩, ?_⟩
      split
      · rename_i e
        rw [if_pos e] at hn
        refine (lim_some (evm AP mt (.loop a) _ _)).2 ⟨n + 1, ?_⟩
        exact iter_mono (fun _ _ _ h => h) n (n + 1) (by omega) _ _ _ hn
      · rename_i e; rw [if_neg e] at hn; exact hn
  · rintro ⟨s, hs, hr⟩
    obtain ⟨n, hn⟩ := (lim_some (evm AP mt a fr G)).1 hs
    split at hr
    · rename_i e
      obtain ⟨m, hm⟩ := (lim_some (evm AP mt (.loop a) _ _)).1 hr
      refine ⟨max n m + 1, ?_⟩
      simp only [iter, Option.bind_eq_some_iff]
      refine ⟨s, evm AP mt a fr G _ _ _ (by omega) hn, ?_⟩
      rw [if_pos e]
      exact iter_mono (fun fr G r h => evm AP mt a fr G m (max n m + 1) r (by omega) h) m (max n m) (by omega) _ _ _ hm
    · rename_i e
      refine ⟨n + 1, ?_⟩
      simp only [iter, Option.bind_eq_some_iff]
      exact ⟨s, evm AP mt a fr G _ _ _ (by omega) hn, by rw [if_neg e]; exact hr⟩
noncomputable def fin (res : List ARes) (r : St3) : Option (AVal × AG) :=
  match r.1 with
  | .exit _ => none
  | _ => (resAll res r.2.1).bind fun v => some (v, r.2.2)
theorem run_eq {f : Nat} {fn : AFn} (hf : AP f = some fn) (as : List AVal) (G : AG) (hl : as.length = fn.np) :
    run AP mt f as G = (ev AP mt fn.body (argFr 0 as) G).bind (fin fn.res) := by
  have h0 : run AP mt f as G = lim fun n => (evC (runF AP mt n) mt n fn.body (argFr 0 as) G).bind (fin fn.res) := by
    apply opt_ext
    intro r
    rw [run_some, lim_some (Mono.bind (g := fun _ => fin fn.res) (evm AP mt fn.body _ G) fun _ => Mono.const _)]
    constructor
    · rintro ⟨n, hn⟩
      cases n with
      | zero => cases hn
      | succ n =>
        simp only [runF, hf, Option.bind_some, hl, if_true] at hn
        exact ⟨n, hn⟩
    · rintro ⟨n, hn⟩
      exact ⟨n + 1, by simp only [runF, hf, Option.bind_some, hl, if_true]; exact hn⟩
  rw [h0, lim_bind_c (evm AP mt fn.body _ G)]
  rfl
end
end Go.Ai
set_option linter.unusedVariables false
set_option linter.unusedSimpArgs false
set_option linter.unusedVariables false
namespace Go.Ai
section
variable (AP : Nat → Option AFn) (mt : Nat → Nat → Option Nat)
inductive KF where
  | seq (b : AC)
  | block (id : Nat)
  | loop (a : AC)
  | fin (res : List ARes)
abbrev R := Option (AVal × AG)
noncomputable def unw (x : Ex) (fr : Fr) (G : AG) : List KF → R
  | [] => none
  | .fin res :: _ => fin res (x, fr, G)
  | .seq b :: S => if x = .normal then (ev AP mt b fr G).bind fun r => unw r.1 r.2.1 r.2.2 S else unw x fr G S
  | .block id :: S => unw (if x = .exit id then .normal else x) fr G S
  | .loop a :: S => if x = .normal then (ev AP mt (.loop a) fr G).bind fun r => unw r.1 r.2.1 r.2.2 S else unw x fr G S
noncomputable def evS (c : AC) (fr : Fr) (G : AG) (S : List KF) : R := (ev AP mt c fr G).bind fun r => unw AP mt r.1 r.2.1 r.2.2 S
noncomputable def isS (is : List AI) (fr : Fr) (G : AG) (ks : List Nat) (S : List KF) : R := (evIs (run AP mt) mt is fr G).bind fun r => unw AP mt .normal (kp ks r.1) r.2 S
/-- A value that comes to a slot, and what follows. -/
noncomputable def putS (v : Option AVal) (d : Option Nat) (is : List AI) (fr : Fr) (G : AG) (ks : List Nat) (S : List KF) : R := v.bind fun v => isS AP mt is (put fr d v) G ks S
noncomputable def retS (v : R) (d : Option Nat) (is : List AI) (fr : Fr) (ks : List Nat) (S : List KF) : R := v.bind fun v => isS AP mt is (put fr d v.1) v.2 ks S
variable {AP mt}
variable {fr : Fr} {G : AG} {S : List KF}
theorem run_evS {f : Nat} {fn : AFn} (hf : AP f = some fn) (as : List AVal) (G : AG) (hl : as.length = fn.np) :
    run AP mt f as G = evS AP mt fn.body (argFr 0 as) G [.fin fn.res] := run_eq AP mt hf as G hl
theorem unw_fin {x : Ex} {res : List ARes} : unw AP mt x fr G (.fin res :: S) = fin res (x, fr, G) := rfl
theorem unw_seq {b : AC} : unw AP mt .normal fr G (.seq b :: S) = evS AP mt b fr G S := by simp only [unw, if_true]; rfl
theorem unw_seq_r {b : AC} : unw AP mt .ret fr G (.seq b :: S) = unw AP mt .ret fr G S := by simp only [unw]; rw [if_neg (by simp)]
theorem unw_seq_x {b : AC} {id : Nat} : unw AP mt (.exit id) fr G (.seq b :: S) = unw AP mt (.exit id) fr G S := by simp only [unw]; rw [if_neg (by simp)]
theorem unw_block_n {id : Nat} : unw AP mt .normal fr G (.block id :: S) = unw AP mt .normal fr G S := by simp only [unw]; rw [if_neg (by simp)]
theorem unw_block_r {id : Nat} : unw AP mt .ret fr G (.block id :: S) = unw AP mt .ret fr G S := by simp only [unw]; rw [if_neg (by simp)]
theorem unw_block_x {id id' : Nat} : unw AP mt (.exit id') fr G (.block id :: S) = unw AP mt (if id' = id then .normal else .exit id') fr G S := by
  simp only [unw, Ex.exit.injEq]
theorem unw_loop {a : AC} : unw AP mt .normal fr G (.loop a :: S) = evS AP mt (.loop a) fr G S := by simp only [unw, if_true]; rfl
theorem unw_loop_r {a : AC} : unw AP mt .ret fr G (.loop a :: S) = unw AP mt .ret fr G S := by simp only [unw]; rw [if_neg (by simp)]
theorem unw_loop_x {a : AC} {id : Nat} : unw AP mt (.exit id) fr G (.loop a :: S) = unw AP mt (.exit id) fr G S := by simp only [unw]; rw [if_neg (by simp)]
theorem S_skip : evS AP mt .skip fr G S = unw AP mt .normal fr G S := by unfold evS; rw [ev_skip]; rfl
theorem S_ret : evS AP mt .ret fr G S = unw AP mt .ret fr G S := by unfold evS; rw [ev_ret]; rfl
theorem S_exit {id : Nat} : evS AP mt (.exit id) fr G S = unw AP mt (.exit id) fr G S := by unfold evS; rw [ev_exit]; rfl
theorem S_seq {a b : AC} : evS AP mt (.seq a b) fr G S = evS AP mt a fr G (.seq b :: S) := by
  unfold evS
  rw [ev_seq, Option.bind_assoc]
  congr 1; funext r
  simp only [unw]
  by_cases h : r.1 = .normal <;> simp only [h, if_true, if_false, Option.bind_some]
theorem S_block {id : Nat} {a : AC} : evS AP mt (.block id a) fr G S = evS AP mt a fr G (.block id :: S) := by
  unfold evS
  rw [ev_block, Option.bind_assoc]
  rfl
theorem S_loop {a : AC} : evS AP mt (.loop a) fr G S = evS AP mt a fr G (.loop a :: S) := by
  unfold evS
  rw [ev_loop, Option.bind_assoc]
  congr 1; funext r
  simp only [unw]
  by_cases h : r.1 = .normal <;> simp only [h, if_true, if_false, Option.bind_some]
noncomputable def cndS (AP : Nat → Option AFn) (mt : Nat → Nat → Option Nat) (v : AVal) (a b : AC) (fr : Fr) (G : AG) (S : List KF) : R := match v with
  | .bool t => if t = true then evS AP mt a fr G S else evS AP mt b fr G S
  | .anyb => (both (ev AP mt a fr G) (ev AP mt b fr G)).bind fun r => unw AP mt r.1 r.2.1 r.2.2 S
  | _ => none
theorem cndS_any {a b : AC} {r : St3} (h1 : ev AP mt a fr G = some r) (h2 : ev AP mt b fr G = some r) : cndS AP mt .anyb a b fr G S = unw AP mt r.1 r.2.1 r.2.2 S := by
  simp only [cndS, both, h1, h2, Option.bind_some, if_true]
theorem cndS_t {a b : AC} : cndS AP mt (.bool true) a b fr G S = evS AP mt a fr G S := rfl
theorem cndS_f {a b : AC} : cndS AP mt (.bool false) a b fr G S = evS AP mt b fr G S := rfl
theorem S_cond {c : Opd} {a b : AC} : evS AP mt (.cond c a b) fr G S = cndS AP mt (c.ev fr) a b fr G S := by
  unfold evS
  rw [ev_cond]
  cases c.ev fr <;> first | rfl | (simp only [cndS]; split <;> rfl)
theorem S_reg {ops : List AI} {ks : List Nat} : evS AP mt (.reg ops ks) fr G S = isS AP mt ops fr G ks S := by
  unfold evS isS
  rw [ev_reg, Option.bind_assoc]
  rfl
variable {ks : List Nat} {is : List AI}
theorem S_nil : isS AP mt [] fr G ks S = unw AP mt .normal (kp ks fr) G S := rfl
theorem putS_some {d : Option Nat} {v : AVal} : putS AP mt (some v) d is fr G ks S = isS AP mt is (put fr d v) G ks S := rfl
theorem putS_none {d : Option Nat} : putS AP mt none d is fr G ks S = none := rfl
theorem retS_some {d : Option Nat} {v : AVal} {G' : AG} : retS AP mt (some (v, G')) d is fr ks S = isS AP mt is (put fr d v) G' ks S := rfl
theorem put_some {d : Nat} {v : AVal} : put fr (some d) v = upd fr d v := rfl
theorem put_none {v : AVal} : put fr none v = fr := rfl
/-- What a guard's outcome makes of the operations that follow. -/
def resG (s : Nat) (t : Bool) : List AI → List AI
  | [] => []
  | ⟨j, d, none, o⟩ :: is => ⟨j, d, none, o⟩ :: (if d = some s then is else resG s t is)
  | ⟨j, d, some (s', w), o⟩ :: is => (if s' = s then (if t = w then ⟨j, d, none, o⟩ else ⟨j, d, none, .mv (.c (.tuple []))⟩) else ⟨j, d, some (s', w), o⟩) :: (if d = some s then is else resG s t is)
theorem put_ne {fr : Fr} {d : Option Nat} {v : AVal} {s : Nat} (h : d ≠ some s) : put fr d v s = fr s := by
  cases d with
  | none => rfl
  | some d => simp only [put, upd]; rw [if_neg]; rintro rfl; exact h rfl
theorem evD_ne {i : AI} {fr fr' : Fr} {G G' : AG} {s : Nat} {t : Bool} (h : evD (run AP mt) mt i fr G = some (fr', G')) (hd : i.dst ≠ some s) (hs : fr s = .bool t) : fr' s = .bool t := by
  obtain ⟨j, d, g, o⟩ := i
  have key : ∀ (o : AOp), (evOp (run AP mt) mt fr G o).bind (fun r => some (put fr d r.1, r.2)) = some (fr', G') → fr' s = .bool t := by
    intro o h
    simp only [Option.bind_eq_some_iff] at h
    obtain ⟨r, _, h⟩ := h
    injection h with h; injection h with h1 h2
    rw [← h1, put_ne hd, hs]
  cases o <;> try exact key _ h
  case mv x => exact key (.mv x) h
  case allocH x => exact key (.allocH x) h
  case boxP x =>
    cases d with
    | none => cases h
    | some d =>
      simp only [evD] at h
      split at h
      · simp only [Option.bind_eq_some_iff] at h
        obtain ⟨cs, _, h⟩ := h
        injection h with h; injection h with h1 h2
        rw [← h1]; simp only [upd]; rw [if_neg (fun e => hd (by rw [e])), hs]
      · cases h
  case allocP x =>
    cases d with
    | none => cases h
    | some d =>
      simp only [evD] at h
      split at h
      · injection h with h; injection h with h1 h2
        rw [← h1]; simp only [upd]; rw [if_neg (fun e => hd (by rw [e])), hs]
      · cases h
  case store n x v =>
    simp only [evD, Option.bind_eq_some_iff] at h
    obtain ⟨vs, _, h⟩ := h
    split at h
    · split at h
      · rename_i b c _
        split at h
        · rename_i cs hb
          split at h
          · injection h with h; injection h with h1 h2
            rw [← h1]; simp only [upd]
            rw [if_neg, hs]
            rintro rfl
            rw [hs] at hb; cases hb
          · cases h
        · cases h
      · simp only [Option.bind_eq_some_iff] at h
        obtain ⟨es, _, e, _, h⟩ := h
        split at h
        · injection h with h; injection h with h1 h2
          rw [← h1, hs]
        · cases h
      · cases h
    · cases h
  case free b =>
    simp only [evD] at h
    split at h
    · injection h with h; injection h with h1 h2
      rw [← h1, hs]
    · injection h with h; injection h with h1 h2
      rw [← h1, hs]
    · cases h
  case fzb b c =>
    simp only [evD] at h
    split at h
    · rename_i cs hb
      have hne : b ≠ s := by rintro rfl; rw [hs] at hb; cases hb
      split at h
      · injection h with h; injection h with h1 h2
        rw [← h1]; simp only [upd]; rw [if_neg (Ne.symm hne), hs]
      · simp only [Option.bind_eq_some_iff] at h
        obtain ⟨es, _, h⟩ := h
        split at h
        · injection h with h; injection h with h1 h2
          rw [← h1]; simp only [upd]; rw [if_neg (Ne.symm hne), hs]
        · cases h
      · cases h
    · cases h
  case again b o =>
    simp only [evD, Option.bind_eq_some_iff] at h
    obtain ⟨r, _, h⟩ := h
    split at h
    · injection h with h; injection h with h1 h2
      rw [← h1, hs]
    · cases h
theorem evD_grd {j : Nat} {d : Option Nat} {g g' : Option (Nat × Bool)} {o : AOp} {fr : Fr} {G : AG} : evD (run AP mt) mt ⟨j, d, g, o⟩ fr G = evD (run AP mt) mt ⟨j, d, g', o⟩ fr G := by cases o <;> rfl
theorem evI_ne {i : AI} {fr fr' : Fr} {G G' : AG} {s : Nat} {t : Bool} (h : evI (run AP mt) mt i fr G = some (fr', G')) (hd : i.dst ≠ some s) (hs : fr s = .bool t) : fr' s = .bool t := by
  unfold evI at h
  split at h
  · exact evD_ne h hd hs
  · split at h
    · split at h
      · exact evD_ne h hd hs
      · injection h with h; injection h with h1 h2
        rw [← h1, put_ne hd, hs]
    · injection h with h; injection h with h1 h2
      rw [← h1, put_ne hd, hs]
    · cases h
theorem evIs_resG {s : Nat} {t : Bool} : ∀ (is : List AI) (fr : Fr) (G : AG), fr s = .bool t → evIs (run AP mt) mt (resG s t is) fr G = evIs (run AP mt) mt is fr G := by
  intro is
  induction is with
  | nil => intro fr G _; rfl
  | cons i is ih =>
    intro fr G hs
    obtain ⟨j, d, g, o⟩ := i
    have tail : ∀ (i' : AI), i'.dst = d → evI (run AP mt) mt i' fr G = evI (run AP mt) mt ⟨j, d, g, o⟩ fr G →
        evIs (run AP mt) mt (i' :: (if d = some s then is else resG s t is)) fr G = evIs (run AP mt) mt (⟨j, d, g, o⟩ :: is) fr G := by
      intro i' hd he
      simp only [evIs, he]
      cases hr : evI (run AP mt) mt ⟨j, d, g, o⟩ fr G with
      | none => rfl
      | some r =>
        simp only [Option.bind_some]
        split
        · rfl
        · rename_i hne; exact ih _ _ (evI_ne hr hne hs)
    cases g with
    | none => exact tail ⟨j, d, none, o⟩ rfl rfl
    | some g =>
      obtain ⟨s', w⟩ := g
      simp only [resG]
      by_cases h1 : s' = s
      · subst h1
        rw [if_pos rfl]
        by_cases h2 : t = w
        · subst h2
          rw [if_pos rfl]
          refine tail ⟨j, d, none, o⟩ rfl ?_
          simp only [evI, hs, if_true]; exact evD_grd
        · rw [if_neg h2]
          refine tail ⟨j, d, none, .mv (.c (.tuple []))⟩ rfl ?_
          simp only [evI, hs, if_neg h2, evD, evOp, Opd.ev, Option.bind_some]
      · rw [if_neg h1]
        exact tail _ rfl rfl

noncomputable def gS (AP : Nat → Option AFn) (mt : Nat → Nat → Option Nat) (v : AVal) (s : Nat) (is : List AI) (fr : Fr) (G : AG) (ks : List Nat) (S : List KF) : R := match v with
  | .bool t => isS AP mt (resG s t is) fr G ks S
  | .tuple [] => match is with
    | i :: is => isS AP mt is (put fr i.dst (.tuple [])) G ks S
    | [] => none
  | _ => none
theorem gS_t {s : Nat} : gS AP mt (.bool true) s is fr G ks S = isS AP mt (resG s true is) fr G ks S := rfl
theorem gS_f {s : Nat} : gS AP mt (.bool false) s is fr G ks S = isS AP mt (resG s false is) fr G ks S := rfl
theorem gS_n {s : Nat} {i : AI} : gS AP mt (.tuple []) s (i :: is) fr G ks S = isS AP mt is (put fr i.dst (.tuple [])) G ks S := rfl
theorem S_grd {j : Nat} {d : Option Nat} {s : Nat} {w : Bool} {o : AOp} : isS AP mt (⟨j, d, some (s, w), o⟩ :: is) fr G ks S = gS AP mt (fr s) s (⟨j, d, some (s, w), o⟩ :: is) fr G ks S := by
  cases h : fr s with
  | bool t =>
    unfold gS isS
    simp only []
    rw [evIs_resG _ _ _ h]
  | tuple vs =>
    cases vs with
    | nil => unfold isS; simp only [evIs, evI, h, Option.bind_some, gS]; rfl
    | cons a b => unfold isS; simp only [evIs, evI, h]; rfl
  | _ => unfold isS; simp only [evIs, evI, h]; rfl

section
variable {j : Nat} {d : Option Nat}
/-- An operation that answers a value and leaves the heap alone. -/
theorem S_val {o : AOp} {v : Option AVal} (h : evD (run AP mt) mt ⟨j, d, none, o⟩ fr G = v.bind fun v => some (put fr d v, G)) : isS AP mt (⟨j, d, none, o⟩ :: is) fr G ks S = putS AP mt v d is fr G ks S := by
  unfold isS putS
  simp only [evIs, evI, h, Option.bind_assoc, Option.bind_some]
  rfl
theorem S_ret' {o : AOp} {v : R} (h : evD (run AP mt) mt ⟨j, d, none, o⟩ fr G = v.bind fun v => some (put fr d v.1, v.2)) : isS AP mt (⟨j, d, none, o⟩ :: is) fr G ks S = retS AP mt v d is fr ks S := by
  unfold isS retS
  simp only [evIs, evI, h, Option.bind_assoc, Option.bind_some]
  rfl
theorem S_mv {x : Opd} : isS AP mt (⟨j, d, none, .mv x⟩ :: is) fr G ks S = isS AP mt is (put fr d (x.ev fr)) G ks S := S_val (v := some (x.ev fr)) rfl
def pickv (c a b : AVal) : Option AVal := match c, a, b with
    | .bool t, .bool x, .bool y => some (.bool (if t then x else y))
    | .bool t, x, y => some (if t then x else y)
    | _, _, _ => none
theorem pickv_bb {t x y : Bool} : pickv (.bool t) (.bool x) (.bool y) = some (.bool (if t then x else y)) := rfl
theorem pickv_t {a b : AVal} : pickv (.bool true) a b = some a := by cases a <;> cases b <;> rfl
theorem pickv_f {a b : AVal} : pickv (.bool false) a b = some b := by cases a <;> cases b <;> rfl
theorem S_pick {c a b : Opd} : isS AP mt (⟨j, d, none, .pick c a b⟩ :: is) fr G ks S = putS AP mt (pickv (c.ev fr) (a.ev fr) (b.ev fr)) d is fr G ks S := by
  refine S_val ?_
  simp only [evD, evOp]
  generalize c.ev fr = x, a.ev fr = y, b.ev fr = z
  cases x <;> cases y <;> cases z <;> rfl
noncomputable def bxS (AP : Nat → Option AFn) (mt : Nat → Nat → Option Nat) (v : AVal) (cs : Option (List AVal)) (d : Nat) (is : List AI) (fr : Fr) (G : AG) (ks : List Nat) (S : List KF) : R := match v with
  | .undef => cs.bind fun cs => isS AP mt is (upd fr d (.pbox cs)) G ks S
  | _ => none
theorem bxS_u {cs : List AVal} {d : Nat} : bxS AP mt .undef (some cs) d is fr G ks S = isS AP mt is (upd fr d (.pbox cs)) G ks S := rfl
theorem S_boxP {d : Nat} {x : Opd} : isS AP mt (⟨j, some d, none, .boxP x⟩ :: is) fr G ks S = bxS AP mt (fr d) (gcells fr x) d is fr G ks S := by
  unfold isS
  simp only [evIs, evI, evD]
  cases fr d <;> simp only [bxS, Option.bind_assoc, Option.bind_some] <;> rfl
theorem S_allocP {d : Nat} {z : List AVal} : isS AP mt (⟨j, some d, none, .allocP z⟩ :: is) fr G ks S = bxS AP mt (fr d) (some z) d is fr G ks S := by
  unfold isS
  simp only [evIs, evI, evD]
  cases fr d <;> rfl
open Classical in
noncomputable def newV (cs : Option (List AVal)) (G : AG) : R := cs.bind fun cs => if cs = [] then none else some (.ptr G.next 0 0, ⟨G.next + 1, updO G.obj G.next (some [cs])⟩)
theorem newV_some {c : AVal} {cs : List AVal} : newV (some (c :: cs)) G = some (.ptr G.next 0 0, ⟨G.next + 1, updO G.obj G.next (some [c :: cs])⟩) := by simp [newV]
def newA (cs : List AVal) (G : AG) : R := some (.ptr G.next 0 0, ⟨G.next + 1, updO G.obj G.next (some [cs])⟩)
theorem S_boxH {x : Opd} : isS AP mt (⟨j, d, none, .boxH x⟩ :: is) fr G ks S = retS AP mt (newV (gcells fr x) G) d is fr ks S := S_ret' rfl
theorem S_allocH {z : List AVal} : isS AP mt (⟨j, d, none, .allocH z⟩ :: is) fr G ks S = retS AP mt (newA z G) d is fr ks S := S_ret' rfl
def bldV (z : List AVal) (ps : Option (List (Nat × List AVal))) : Option AVal := ps.bind fun vs => some (.agg (fillB z vs))
theorem bldV_some {z : List AVal} {ps : List (Nat × List AVal)} : bldV z (some ps) = some (.agg (fillB z ps)) := rfl
theorem S_build {z : List AVal} {ps : List (Nat × Nat × Opd)} : isS AP mt (⟨j, d, none, .build z ps⟩ :: is) fr G ks S = putS AP mt (bldV z (partsOf fr ps)) d is fr G ks S := by
  refine S_val ?_
  simp only [evD, evOp, bldV, Option.bind_assoc, Option.bind_some]
open Classical in
noncomputable def litV (z : Nat) (es : Option Obj') : Option AVal := es.bind fun es => if (∀ e ∈ es, e.length = z) then some (.list es) else none
theorem litV_some {z : Nat} {es : Obj'} : litV z (some es) = if (∀ e ∈ es, e.length = z) then some (.list es) else none := rfl
theorem S_litI {z : Nat} {ps : List Opd} : isS AP mt (⟨j, d, none, .litI z ps⟩ :: is) fr G ks S = putS AP mt (litV z (gcellss fr ps)) d is fr G ks S := by
  refine S_val ?_
  simp only [evD, evOp, litV, Option.bind_assoc, Option.bind_some]
  congr 1; funext es
  split <;> rfl
open Classical in
noncomputable def litW (z : Nat) (es : Option Obj') (G : AG) : R := es.bind fun es => if es = [] then some (.nils, G) else if (∀ e ∈ es, e.length = z) then some (.slice G.next 0 es.length, ⟨G.next + 1, updO G.obj G.next (some es)⟩) else none
theorem litW_nil {z : Nat} : litW z (some []) G = some (.nils, G) := by simp [litW]
theorem litW_cons {z : Nat} {e : List AVal} {es : Obj'} : litW z (some (e :: es)) G = if (∀ x ∈ e :: es, x.length = z) then some (.slice G.next 0 (e :: es).length, ⟨G.next + 1, updO G.obj G.next (some (e :: es))⟩) else none := by simp [litW]
theorem S_litO {z : Nat} {ps : List Opd} : isS AP mt (⟨j, d, none, .litO z ps⟩ :: is) fr G ks S = retS AP mt (litW z (gcellss fr ps) G) d is fr ks S := S_ret' rfl
/-- What is read at an address. -/
def ldA (fr : Fr) (G : AG) (k : Option Nat) (x : AVal) : Option AVal := match x with
    | .pptr d c => match fr d with
      | .pbox cs => ldv k cs c
      | _ => none
    | .ptr id i c => (G.obj id).bind fun es => (es[i]?).bind fun e => ldv k e c
    | .iptr es i c => (es[i]?).bind fun e => ldv k e c
    | _ => none
theorem ldA_pptr {k : Option Nat} {d c : Nat} {cs : List AVal} (h : fr d = .pbox cs) : ldA fr G k (.pptr d c) = ldv k cs c := by simp only [ldA, h]
theorem ldA_ptr {k : Option Nat} {id i c : Nat} {es : Obj'} (h : G.obj id = some es) : ldA fr G k (.ptr id i c) = (es[i]?).bind fun e => ldv k e c := by simp only [ldA, h, Option.bind_some]
theorem ldA_iptr {k : Option Nat} {i c : Nat} {es : Obj'} : ldA fr G k (.iptr es i c) = (es[i]?).bind fun e => ldv k e c := rfl
theorem S_load {k : Option Nat} {x : Opd} : isS AP mt (⟨j, d, none, .load k x⟩ :: is) fr G ks S = putS AP mt (ldA fr G k (x.ev fr)) d is fr G ks S := by
  refine S_val ?_
  simp only [evD, evOp]
  generalize x.ev fr = v
  cases v <;> simp only [ldA] <;> try rfl
  · simp only [Option.bind_assoc, Option.bind_some]
  · rename_i b c
    cases fr b <;> first | rfl | simp only [Option.bind_assoc, Option.bind_some]
  · simp only [Option.bind_assoc, Option.bind_some]
def nilckV : AVal → Option AVal
    | .pptr d c => some (.pptr d c)
    | .ptr id i c => some (.ptr id i c)
    | .iptr es i c => some (.iptr es i c)
    | .func f cs => some (.func f cs)
    | .iface t v => some (.iface t v)
    | .meth => some .meth
    | _ => none
theorem S_nilck {x : Opd} : isS AP mt (⟨j, d, none, .nilck x⟩ :: is) fr G ks S = putS AP mt (nilckV (x.ev fr)) d is fr G ks S := by
  refine S_val ?_; simp only [evD, evOp]; cases x.ev fr <;> first | rfl | simp only [nilckV, Option.bind_assoc, Option.bind_some]
def binV (op : BinOp) (x y : Option AVal) : Option AVal := x.bind fun a => y.bind fun b => binv op a b
theorem binV_some {op : BinOp} {x y : AVal} : binV op (some x) (some y) = binv op x y := rfl
theorem S_bin {op : BinOp} {x y : Opd} : isS AP mt (⟨j, d, none, .bin op x y⟩ :: is) fr G ks S = putS AP mt (binV op (x.gev fr) (y.gev fr)) d is fr G ks S := by
  refine S_val ?_; simp only [evD, evOp, binV, Option.bind_assoc, Option.bind_some]
def eqkO (k : EqK) (neg : Bool) (x y : Option AVal) : Option AVal := x.bind fun a => y.bind fun b => eqkv k neg a b
theorem eqkO_some {k : EqK} {neg : Bool} {x y : AVal} : eqkO k neg (some x) (some y) = eqkv k neg x y := rfl
theorem S_eqk {k : EqK} {neg : Bool} {x y : Opd} : isS AP mt (⟨j, d, none, .eqk k neg x y⟩ :: is) fr G ks S = putS AP mt (eqkO k neg (x.gev fr) (y.gev fr)) d is fr G ks S := by
  refine S_val ?_; simp only [evD, evOp, eqkO, Option.bind_assoc, Option.bind_some]
theorem eqkv_b {a b : Bool} : eqkv .b false (.bool a) (.bool b) = some (.bool (a == b)) := rfl
theorem eqkv_bn {a b : Bool} : eqkv .b true (.bool a) (.bool b) = some (.bool (!(a == b))) := rfl
theorem eqkv_fn {f : Nat} {cs : List AVal} {neg : Bool} : eqkv .f neg (.func f cs) .nilf = some (.bool neg) := by cases neg <;> rfl
theorem eqkv_nn {neg : Bool} : eqkv .f neg .nilf .nilf = some (.bool !neg) := by cases neg <;> rfl
theorem eqkv_st {l : List Bool} {neg : Bool} {xs ys : List AVal} : eqkv (.st l) neg (.agg xs) (.agg ys) = (eqks l xs ys).map fun b => .bool (if neg then !b else b) := rfl
def ntV : AVal → Option AVal
  | .bool b => some (.bool (!b))
  | _ => none
theorem S_nt {x : Opd} : isS AP mt (⟨j, d, none, .nt x⟩ :: is) fr G ks S = putS AP mt (ntV (x.ev fr)) d is fr G ks S := by
  refine S_val ?_; simp only [evD, evOp]; cases x.ev fr <;> first | rfl | simp only [ntV, Option.bind_assoc, Option.bind_some]
def negV : AVal → Option AVal
  | .int k n => some (.int k (k.wrap (0 - n)))
  | _ => none
theorem S_neg {x : Opd} : isS AP mt (⟨j, d, none, .neg x⟩ :: is) fr G ks S = putS AP mt (negV (x.ev fr)) d is fr G ks S := by
  refine S_val ?_; simp only [evD, evOp]; cases x.ev fr <;> first | rfl | simp only [negV, Option.bind_assoc, Option.bind_some]
def fldV (off : Nat) : AVal → Option AVal
    | .pptr d c => some (.pptr d (c + off))
    | .ptr id i c => some (.ptr id i (c + off))
    | .iptr es i c => some (.iptr es i (c + off))
    | _ => none
theorem S_fld {off : Nat} {x : Opd} : isS AP mt (⟨j, d, none, .fld off x⟩ :: is) fr G ks S = putS AP mt (fldV off (x.ev fr)) d is fr G ks S := by
  refine S_val ?_; simp only [evD, evOp]; cases x.ev fr <;> first | rfl | simp only [fldV, Option.bind_assoc, Option.bind_some]
open Classical in
noncomputable def idxV (z : Nat) (x i : AVal) (g : Heap') : Option AVal := match x, i with
    | .list es, .int _ n => if 0 ≤ n ∧ n < es.length ∧ (∀ e ∈ es, e.length = z) then some (.iptr es n.toNat 0) else none
    | .slice id off len, .int _ n => if 0 ≤ n ∧ n < len then (g id).bind fun es => (es[off + n.toNat]?).bind fun e => if e.length = z then some (.ptr id (off + n.toNat) 0) else none else none
    | _, _ => none
variable {g : Heap'}
theorem idx_list {z : Nat} {es : Obj'} {k : IntKind} {n : Int} (h : ∀ e ∈ es, e.length = z) : idxV z (.list es) (.int k n) g = if 0 ≤ n ∧ n < es.length then some (.iptr es n.toNat 0) else none := by
  by_cases hh : 0 ≤ n ∧ n < es.length
  · simp only [idxV]; rw [if_pos hh, if_pos ⟨hh.1, hh.2, h⟩]
  · simp only [idxV]; rw [if_neg hh, if_neg (fun hc => hh ⟨hc.1, hc.2.1⟩)]
theorem idx_ok {z : Nat} {es : Obj'} {k : IntKind} {n : Int} (h : ∀ e ∈ es, e.length = z) (h0 : 0 ≤ n) (h1 : n < es.length) : idxV z (.list es) (.int k n) g = some (.iptr es n.toNat 0) := by
  rw [idx_list h, if_pos ⟨h0, h1⟩]
theorem idx_slice {z : Nat} {id off len : Nat} {k : IntKind} {n : Int} {es : Obj'} {e : List AVal} (h0 : 0 ≤ n) (h1 : n < len) (h2 : g id = some es) (h3 : es[off + n.toNat]? = some e) (h4 : e.length = z) : idxV z (.slice id off len) (.int k n) g = some (.ptr id (off + n.toNat) 0) := by
  simp only [idxV]; rw [if_pos ⟨h0, h1⟩]; simp only [h2, h3, Option.bind_some, h4, if_true]
theorem S_idx {z : Nat} {x i : Opd} : isS AP mt (⟨j, d, none, .idx z x i⟩ :: is) fr G ks S = putS AP mt (idxV z (x.ev fr) (i.ev fr) G.obj) d is fr G ks S := by
  refine S_val ?_; simp only [evD, evOp]
  generalize x.ev fr = v, i.ev fr = u
  cases v <;> cases u <;> simp only [idxV] <;> first | rfl | (split <;> rfl) | skip
  rename_i id off len k n
  split
  · cases G.obj id with
    | none => rfl
    | some es =>
      simp only [Option.bind_some]
      cases es[off + n.toNat]? with
      | none => rfl
      | some e => simp only [Option.bind_some]; split <;> rfl
  · rfl
def extV (i : Nat) : AVal → Option AVal
  | .tuple vs => vs[i]?
  | _ => none
theorem S_ext {i : Nat} {x : Opd} : isS AP mt (⟨j, d, none, .ext x i⟩ :: is) fr G ks S = putS AP mt (extV i (x.ev fr)) d is fr G ks S := by
  refine S_val ?_; simp only [evD, evOp]; cases x.ev fr <;> first | rfl | simp only [extV, Option.bind_assoc, Option.bind_some]
def fieldV (off : Nat) (k : Option Nat) : AVal → Option AVal
  | .agg cs => ldv k cs off
  | _ => none
theorem S_fieldv {off : Nat} {k : Option Nat} {x : Opd} : isS AP mt (⟨j, d, none, .fieldv off k x⟩ :: is) fr G ks S = putS AP mt (fieldV off k (x.ev fr)) d is fr G ks S := by
  refine S_val ?_; simp only [evD, evOp]; cases x.ev fr <;> first | rfl | simp only [fieldV, Option.bind_assoc, Option.bind_some]
def lenV : AVal → Option AVal
    | .list es => some (.int .i64 es.length)
    | .nils => some (.int .i64 0)
    | .slice _ _ n => some (.int .i64 n)
    | _ => none
def slenV : AVal → Option AVal
    | .str s => some (.int .i64 s.size)
    | _ => none
theorem S_slen {x : Opd} : isS AP mt (⟨j, d, none, .slen x⟩ :: is) fr G ks S = putS AP mt (slenV (x.ev fr)) d is fr G ks S := by
  refine S_val ?_; simp only [evD, evOp]; cases x.ev fr <;> rfl
theorem S_len {x : Opd} : isS AP mt (⟨j, d, none, .len x⟩ :: is) fr G ks S = putS AP mt (lenV (x.ev fr)) d is fr G ks S := by
  refine S_val ?_; simp only [evD, evOp]; cases x.ev fr <;> first | rfl | simp only [lenV, Option.bind_assoc, Option.bind_some]
theorem S_app {z b : Nat} {x y : Opd} : isS AP mt (⟨j, d, none, .app z b x y⟩ :: is) fr G ks S = retS AP mt (appV z b (x.ev fr) (y.ev fr) G) d is fr ks S := S_ret' rfl
noncomputable def callV (AP : Nat → Option AFn) (mt : Nat → Nat → Option Nat) (m : CM) (f : Nat) (vs : Option (List AVal)) (G : AG) : R := vs.bind fun vs => callBy (run AP mt) m f vs G
theorem callV_some {m : CM} {f : Nat} {vs : List AVal} : callV AP mt m f (some vs) G = callBy (run AP mt) m f vs G := rfl
theorem S_call {m : CM} {f : Nat} {as : List Opd} : isS AP mt (⟨j, d, none, .call m f as⟩ :: is) fr G ks S = retS AP mt (callV AP mt m f (gevs fr as) G) d is fr ks S := S_ret' rfl
noncomputable def callvV (AP : Nat → Option AFn) (mt : Nat → Nat → Option Nat) (m : CM) (x : AVal) (vs : Option (List AVal)) (G : AG) : R := match x with
  | .func f caps => vs.bind fun vs => callBy (run AP mt) m f (vs ++ caps) G
  | _ => none
theorem callvV_some {m : CM} {f : Nat} {caps vs : List AVal} : callvV AP mt m (.func f caps) (some vs) G = callBy (run AP mt) m f (vs ++ caps) G := rfl
theorem S_callv {m : CM} {x : Opd} {as : List Opd} : isS AP mt (⟨j, d, none, .callv m x as⟩ :: is) fr G ks S = retS AP mt (callvV AP mt m (x.ev fr) (gevs fr as) G) d is fr ks S := by
  refine S_ret' ?_; simp only [evD, evOp]; cases x.ev fr <;> rfl
def mkfV (f : Nat) (cs : Option (List AVal)) : Option AVal := cs.bind fun cs => some (.func f cs)
theorem mkfV_some {f : Nat} {cs : List AVal} : mkfV f (some cs) = some (.func f cs) := rfl
theorem S_mkf {f : Nat} {caps : List Opd} : isS AP mt (⟨j, d, none, .mkf f caps⟩ :: is) fr G ks S = putS AP mt (mkfV f (gevs fr caps)) d is fr G ks S := by
  refine S_val ?_; simp only [evD, evOp, mkfV, Option.bind_assoc, Option.bind_some]
open Classical in
noncomputable def mksV (z : List AVal) (b : Nat) (G : AG) (v : AVal) : R := match v with
    | .int .i64 m => if m = 0 then some (.nils, G) else if 0 ≤ m ∧ m * b ≤ maxA then some (.slice G.next 0 m.toNat, ⟨G.next + 1, updO G.obj G.next (some (List.replicate m.toNat z))⟩) else none
    | _ => none
theorem S_mks {z : List AVal} {b : Nat} {x : Opd} : isS AP mt (⟨j, d, none, .mks z b x⟩ :: is) fr G ks S = retS AP mt (mksV z b G (x.ev fr)) d is fr ks S := by
  refine S_ret' ?_; simp only [evD, evOp]
  generalize x.ev fr = v
  cases v <;> try rfl
open Classical in
noncomputable def slV (z : Nat) (x : AVal) (lo hi : Option AVal) (g : Heap') : Option AVal := match x with
    | .list es => (boundOf lo 0).bind fun l => (boundOf hi es.length).bind fun h =>
      if l ≤ h ∧ h ≤ es.length ∧ (∀ e ∈ es, e.length = z) then some (.list ((es.drop l).take (h - l))) else none
    | .slice id off len => (boundOf lo 0).bind fun l => (boundOf hi len).bind fun h =>
      if l ≤ h ∧ h ≤ len then (g id).bind fun es => if es ≠ [] ∧ (∀ e ∈ es, e.length = z) then some (.slice id (off + l) (h - l)) else none else none
    | .nils => (boundOf lo 0).bind fun l => (boundOf hi 0).bind fun h => if l = 0 ∧ h = 0 then some .nils else none
    | _ => none
def sl0V : AVal → Option AVal
    | .list _ | .slice _ _ _ | .nils => some .nils
    | _ => none
theorem S_sl0 {x : Opd} : isS AP mt (⟨j, d, none, .sl0 x⟩ :: is) fr G ks S = putS AP mt (sl0V (x.ev fr)) d is fr G ks S := by
  refine S_val ?_; simp only [evD, evOp]; cases x.ev fr <;> first | rfl | simp only [sl0V, Option.bind_assoc, Option.bind_some]
open Classical in
noncomputable def isnilV (neg : Bool) : AVal → Option AVal
    | .list es => some (if es = [] then .anyb else .bool neg)
    | .slice _ _ n => some (if n = 0 then .anyb else .bool neg)
    | .nils => some .anyb
    | _ => none
theorem S_isnil {neg : Bool} {x : Opd} : isS AP mt (⟨j, d, none, .isnil neg x⟩ :: is) fr G ks S = putS AP mt (isnilV neg (x.ev fr)) d is fr G ks S := by
  refine S_val ?_; simp only [evD, evOp]; cases x.ev fr <;> first | rfl | simp only [isnilV, Option.bind_assoc, Option.bind_some]
def mkmV : AVal → Option AVal
    | .iface _ _ => some .meth
    | _ => none
theorem S_mkm {x : Opd} : isS AP mt (⟨j, d, none, .mkm x⟩ :: is) fr G ks S = putS AP mt (mkmV (x.ev fr)) d is fr G ks S := by
  refine S_val ?_; simp only [evD, evOp]; cases x.ev fr <;> first | rfl | simp only [mkmV, Option.bind_assoc, Option.bind_some]
def mkiV (tag : Nat) (v : Option AVal) : Option AVal := v.bind fun v => some (.iface tag v)
theorem mkiV_some {tag : Nat} {v : AVal} : mkiV tag (some v) = some (.iface tag v) := rfl
theorem S_mki {tag : Nat} {x : Opd} : isS AP mt (⟨j, d, none, .mki tag x⟩ :: is) fr G ks S = putS AP mt (mkiV tag (x.gev fr)) d is fr G ks S := by
  refine S_val ?_; simp only [evD, evOp, mkiV, Option.bind_assoc, Option.bind_some]
noncomputable def invV (AP : Nat → Option AFn) (mt : Nat → Nat → Option Nat) (name : Nat) (x : AVal) (vs : Option (List AVal)) (G : AG) : R := match x with
  | .iface tag v => (mt tag name).bind fun f => vs.bind fun vs => run AP mt f (v :: vs) G
  | _ => none
theorem S_inv {name : Nat} {x : Opd} {as : List Opd} : isS AP mt (⟨j, d, none, .inv x name as⟩ :: is) fr G ks S = retS AP mt (invV AP mt name (x.ev fr) (gevs fr as) G) d is fr ks S := by
  refine S_ret' ?_; simp only [evD, evOp]; cases x.ev fr <;> rfl
open Classical in
noncomputable def fzV (v : AVal) (G : AG) : Option (AVal × AG) := match v with
  | .nils => some (.list [], G)
  | .slice id off len => (G.obj id).bind fun es => if off + len ≤ es.length then some (.list ((es.drop off).take len), ⟨G.next, updO G.obj id none⟩) else none
  | _ => none
theorem S_fz {t : Nat} : isS AP mt (⟨j, d, none, .fz t⟩ :: is) fr G ks S = retS AP mt (fzV (pv t (fr t)) G) d is fr ks S := by
  refine S_ret' ?_
  simp only [evD, evOp]
  cases pv t (fr t) <;> rfl
theorem S_sl {z : Nat} {x : Opd} {lo hi : Option Opd} : isS AP mt (⟨j, d, none, .sl z x lo hi⟩ :: is) fr G ks S = putS AP mt (slV z (x.ev fr) (lo.map (·.ev fr)) (hi.map (·.ev fr)) G.obj) d is fr G ks S := by
  refine S_val ?_; simp only [evD, evOp]
  generalize x.ev fr = v
  cases v <;> simp only [slV] <;> try rfl
  all_goals
    cases boundOf (lo.map (·.ev fr)) 0 <;> try rfl
    simp only [Option.bind_some]
    rename_i l
    first
    | (cases boundOf (hi.map (·.ev fr)) _ <;> try rfl
       simp only [Option.bind_some]
       split <;> first | rfl | (rename_i id _ _ _ _; cases G.obj id <;> first | rfl | (simp only [Option.bind_some]; split <;> rfl)))
def convV (k : IntKind) : AVal → Option AVal
  | .int _ n => some (.int k (k.wrap n))
  | _ => none
theorem S_conv {k : IntKind} {x : Opd} : isS AP mt (⟨j, d, none, .conv k x⟩ :: is) fr G ks S = putS AP mt (convV k (x.ev fr)) d is fr G ks S := by
  refine S_val ?_; simp only [evD, evOp]; cases x.ev fr <;> first | rfl | simp only [convV, Option.bind_assoc, Option.bind_some]
def mxV (mx : Bool) (x y : AVal) : Option AVal := match x, y with
    | .int k a, .int k' b => if k = k' then some (.int k (if mx then (if b > a then b else a) else (if b < a then b else a))) else none
    | _, _ => none
def mxO (mx : Bool) (x y : Option AVal) : Option AVal := x.bind fun a => y.bind fun b => mxV mx a b
theorem mxO_some {mx : Bool} {x y : AVal} : mxO mx (some x) (some y) = mxV mx x y := rfl
theorem S_mxn {mx : Bool} {x y : Opd} : isS AP mt (⟨j, d, none, .mxn mx [x, y]⟩ :: is) fr G ks S = putS AP mt (mxO mx (x.gev fr) (y.gev fr)) d is fr G ks S := by
  refine S_val ?_; simp only [evD, evOp, gevs, mxO, Option.bind_assoc, Option.bind_some]
  congr 1; funext a
  congr 1; funext b
  cases a <;> cases b <;> simp only [mxV] <;> first | rfl | (split <;> rfl)
def stP (n c : Nat) (vs : List AVal) (b : AVal) : Option AVal := match b with
  | .pbox cs => if vs.length = n ∧ c + n ≤ cs.length then some (.pbox (splice cs c vs)) else none
  | _ => none
def stH (n i c : Nat) (vs : List AVal) (o : Option Obj') : Option Obj' := o.bind fun es => (es[i]?).bind fun e => if vs.length = n ∧ c + n ≤ e.length then some (es.set i (splice e c vs)) else none
noncomputable def bS (AP : Nat → Option AFn) (mt : Nat → Nat → Option Nat) (v : Option AVal) (b : Nat) (is : List AI) (fr : Fr) (G : AG) (ks : List Nat) (S : List KF) : R := v.bind fun v => isS AP mt is (upd fr b v) G ks S
noncomputable def hS (AP : Nat → Option AFn) (mt : Nat → Nat → Option Nat) (v : Option Obj') (id : Nat) (is : List AI) (fr : Fr) (G : AG) (ks : List Nat) (S : List KF) : R := v.bind fun o => isS AP mt is fr ⟨G.next, updO G.obj id (some o)⟩ ks S
noncomputable def stS (AP : Nat → Option AFn) (mt : Nat → Nat → Option Nat) (n : Nat) (a : AVal) (vs : Option (List AVal)) (is : List AI) (fr : Fr) (G : AG) (ks : List Nat) (S : List KF) : R := vs.bind fun vs => match a with
  | .pptr b c => bS AP mt (stP n c vs (fr b)) b is fr G ks S
  | .ptr id i c => hS AP mt (stH n i c vs (G.obj id)) id is fr G ks S
  | _ => none
theorem stS_p {n b c : Nat} {vs : List AVal} : stS AP mt n (.pptr b c) (some vs) is fr G ks S = bS AP mt (stP n c vs (fr b)) b is fr G ks S := rfl
theorem stS_h {n id i c : Nat} {vs : List AVal} : stS AP mt n (.ptr id i c) (some vs) is fr G ks S = hS AP mt (stH n i c vs (G.obj id)) id is fr G ks S := rfl
theorem stP_box {n c : Nat} {vs cs : List AVal} (h : vs.length = n ∧ c + n ≤ cs.length) : stP n c vs (.pbox cs) = some (.pbox (splice cs c vs)) := by
  simp only [stP]; rw [if_pos h]
theorem stH_ok {n i c : Nat} {vs e : List AVal} {es : Obj'} (he : es[i]? = some e) (h : vs.length = n ∧ c + n ≤ e.length) : stH n i c vs (some es) = some (es.set i (splice e c vs)) := by
  simp only [stH, Option.bind_some, he]; rw [if_pos h]
theorem bS_some {v : AVal} {b : Nat} : bS AP mt (some v) b is fr G ks S = isS AP mt is (upd fr b v) G ks S := rfl
theorem hS_some {v : Obj'} {b : Nat} : hS AP mt (some v) b is fr G ks S = isS AP mt is fr ⟨G.next, updO G.obj b (some v)⟩ ks S := rfl
theorem S_st {n : Nat} {x v : Opd} : isS AP mt (⟨j, d, none, .store n x v⟩ :: is) fr G ks S = stS AP mt n (x.ev fr) (gcells fr v) is fr G ks S := by
  unfold isS
  simp only [evIs, evI, evD, Option.bind_assoc, stS]
  congr 1; funext vs
  by_cases hn : vs.length = n
  · rw [if_pos hn]
    generalize x.ev fr = a
    cases a <;> try rfl
    · rename_i id i c
      simp only [hS, stH, Option.bind_assoc]
      congr 1; funext es; congr 1; funext e
      by_cases hc : c + n ≤ e.length
      · rw [if_pos hc, if_pos ⟨hn, hc⟩]; rfl
      · rw [if_neg hc, if_neg fun h => hc h.2]; rfl
    · rename_i b c
      simp only [bS, stP]
      cases fr b <;> try rfl
      rename_i cs
      dsimp only
      by_cases hc : c + n ≤ cs.length
      · rw [if_pos hc, if_pos ⟨hn, hc⟩]; rfl
      · rw [if_neg hc, if_neg fun h => hc h.2]; rfl
  · rw [if_neg hn]
    generalize x.ev fr = a
    cases a <;> try rfl
    · rename_i id i c
      have : stH n i c vs (G.obj id) = none := by
        unfold stH
        cases G.obj id with
        | none => rfl
        | some es =>
          simp only [Option.bind_some]
          cases es[i]? with
          | none => rfl
          | some e => simp only [Option.bind_some]; rw [if_neg fun h => hn h.1]
      simp only [hS, this]; rfl
    · rename_i b c
      simp only [bS, stP]
      cases fr b <;> try rfl
      dsimp only
      rw [if_neg fun h => hn h.1]; rfl
def frG (v : AVal) (G : AG) : Option AG := match v with
  | .ptr id _ _ => some ⟨G.next, updO G.obj id none⟩
  | .slice id _ _ => some ⟨G.next, updO G.obj id none⟩
  | _ => none
theorem frG_p {id i c : Nat} : frG (.ptr id i c) G = some ⟨G.next, updO G.obj id none⟩ := rfl
theorem frG_s {id i c : Nat} : frG (.slice id i c) G = some ⟨G.next, updO G.obj id none⟩ := rfl
noncomputable def frS (AP : Nat → Option AFn) (mt : Nat → Nat → Option Nat) (g : Option AG) (is : List AI) (fr : Fr) (ks : List Nat) (S : List KF) : R := g.bind fun G => isS AP mt is fr G ks S
theorem frS_some : frS AP mt (some G) is fr ks S = isS AP mt is fr G ks S := rfl
theorem S_free {t : Nat} : isS AP mt (⟨j, d, none, .free t⟩ :: is) fr G ks S = frS AP mt (frG (fr t) G) is fr ks S := by
  unfold isS
  simp only [evIs, evI, evD]
  cases fr t <;> rfl
open Classical in
noncomputable def fbV (t c : Nat) (v : AVal) (fr : Fr) (G : AG) : Option (Fr × AG) := match v with
  | .pbox cs => match cs[c]? with
    | some .nils => some (upd fr t (.pbox (splice cs c [.list []])), G)
    | some (.slice id off len) => (G.obj id).bind fun es => if off + len ≤ es.length then some (upd fr t (.pbox (splice cs c [.list ((es.drop off).take len)])), ⟨G.next, updO G.obj id none⟩) else none
    | _ => none
  | _ => none
noncomputable def fbS (AP : Nat → Option AFn) (mt : Nat → Nat → Option Nat) (g : Option (Fr × AG)) (is : List AI) (ks : List Nat) (S : List KF) : R := g.bind fun s => isS AP mt is s.1 s.2 ks S
theorem fbS_some {s : Fr × AG} : fbS AP mt (some s) is ks S = isS AP mt is s.1 s.2 ks S := rfl
theorem S_fzb {t c : Nat} : isS AP mt (⟨j, d, none, .fzb t c⟩ :: is) fr G ks S = fbS AP mt (fbV t c (fr t) fr G) is ks S := by
  unfold isS fbS
  have h : evD (run AP mt) mt ⟨j, d, none, .fzb t c⟩ fr G = fbV t c (fr t) fr G := by
    simp only [evD, fbV]
    all_goals
      cases fr t <;> try rfl
      all_goals
        rename_i cs
        cases cs[c]? <;> try rfl
        all_goals
          rename_i v
          cases v <;> rfl
  simp only [evIs, evI, h]
  cases fbV t c (fr t) fr G <;> rfl
open Classical in
noncomputable def agS (AP : Nat → Option AFn) (mt : Nat → Nat → Option Nat) (a : Option AVal) (b : AVal) (is : List AI) (fr : Fr) (G : AG) (ks : List Nat) (S : List KF) : R := if a = some b then isS AP mt is fr G ks S else none
theorem agS_ok {a : AVal} : agS AP mt (some a) a is fr G ks S = isS AP mt is fr G ks S := if_pos rfl
theorem S_ag' {t : Nat} {o : AOp} {v : Option AVal} (h : evOp (run AP mt) mt fr G o = v.map fun v => (v, G)) : isS AP mt (⟨j, d, none, .again t o⟩ :: is) fr G ks S = agS AP mt v (fr t) is fr G ks S := by
  unfold isS
  simp only [evIs, evI, evD, h]
  cases v with
  | none => simp [agS]
  | some v =>
    simp only [Option.map_some, Option.bind_some, agS]
    by_cases e : v = fr t
    · rw [if_pos e, if_pos (by rw [e])]; rfl
    · rw [if_neg e, if_neg (fun h => e (by injection h))]; rfl
theorem ev_load {call : CallF} {k : Option Nat} {x : Opd} : evOp call mt fr G (.load k x) = (ldA fr G k (x.ev fr)).map fun v => (v, G) := by
  simp only [evOp]
  generalize x.ev fr = v
  cases v <;> simp only [ldA] <;> try rfl
  · rename_i id i c
    cases G.obj id with
    | none => rfl
    | some es =>
      simp only [Option.bind_some]
      cases es[i]? with
      | none => rfl
      | some e => simp only [Option.bind_some]; cases ldv k e c <;> rfl
  · rename_i b c
    cases fr b <;> first | rfl | (rename_i cs; dsimp only; cases ldv k cs c <;> rfl)
  · rename_i es i c
    cases es[i]? with
      | none => rfl
      | some e => simp only [Option.bind_some]; cases ldv k e c <;> rfl
theorem S_ag {t : Nat} {k : Option Nat} {x : Opd} : isS AP mt (⟨j, d, none, .again t (.load k x)⟩ :: is) fr G ks S = agS AP mt (ldA fr G k (x.ev fr)) (fr t) is fr G ks S := S_ag' ev_load
theorem ev_idx {call : CallF} {z : Nat} {x i : Opd} : evOp call mt fr G (.idx z x i) = (idxV z (x.ev fr) (i.ev fr) G.obj).map fun v => (v, G) := by
  simp only [evOp]
  generalize x.ev fr = v, i.ev fr = u
  cases v <;> cases u <;> simp only [idxV] <;> first | rfl | (split <;> rfl) | skip
  rename_i id off len k n
  split
  · cases G.obj id with
    | none => rfl
    | some es =>
      simp only [Option.bind_some]
      cases es[off + n.toNat]? with
      | none => rfl
      | some e => simp only [Option.bind_some]; split <;> rfl
  · rfl
theorem S_agi {t z : Nat} {x i : Opd} : isS AP mt (⟨j, d, none, .again t (.idx z x i)⟩ :: is) fr G ks S = agS AP mt (idxV z (x.ev fr) (i.ev fr) G.obj) (fr t) is fr G ks S := S_ag' ev_idx
theorem ev_sl {call : CallF} {z : Nat} {x : Opd} {lo hi : Option Opd} : evOp call mt fr G (.sl z x lo hi) = (slV z (x.ev fr) (lo.map (·.ev fr)) (hi.map (·.ev fr)) G.obj).map fun v => (v, G) := by
  simp only [evOp]
  generalize x.ev fr = v
  cases v <;> simp only [slV] <;> try rfl
  all_goals
    cases boundOf (lo.map (·.ev fr)) 0 <;> try rfl
    simp only [Option.bind_some]
    rename_i l
    first
    | (cases boundOf (hi.map (·.ev fr)) _ <;> try rfl
       simp only [Option.bind_some]
       split <;> first | rfl | (rename_i id _ _ _ _; cases G.obj id <;> first | rfl | (simp only [Option.bind_some]; split <;> rfl)))
theorem S_ags {t z : Nat} {x : Opd} {lo hi : Option Opd} : isS AP mt (⟨j, d, none, .again t (.sl z x lo hi)⟩ :: is) fr G ks S = agS AP mt (slV z (x.ev fr) (lo.map (·.ev fr)) (hi.map (·.ev fr)) G.obj) (fr t) is fr G ks S := S_ag' ev_sl
end
end
/-! ## short words for the lowered text -/
abbrev xm (j d s : Nat) : AI := ⟨j, some d, none, .mv (.t s)⟩
abbrev xn (j d s : Nat) : AI := ⟨j, some d, none, .nilck (.t s)⟩
abbrev xf (j d o s : Nat) : AI := ⟨j, some d, none, .fld o (.t s)⟩
abbrev xl (j d s : Nat) : AI := ⟨j, some d, none, .load none (.t s)⟩
abbrev xL (j d n s : Nat) : AI := ⟨j, some d, none, .load (some n) (.t s)⟩
abbrev xi (j d z a b : Nat) : AI := ⟨j, some d, none, .idx z (.t a) (.t b)⟩
/-! ## frames -/
theorem upd_at (fr : Fr) (d : Nat) (v : AVal) (t : Nat) : upd fr d v t = if t = d then v else fr t := rfl
theorem fr0_at (t : Nat) : fr0 t = .undef := rfl
theorem ev_t (fr : Fr) (n : Nat) : (Opd.t n).ev fr = pv n (fr n) := rfl
theorem ev_c (fr : Fr) (v : AVal) : (Opd.c v).ev fr = v := rfl
theorem argFr_nil (n : Nat) : argFr n [] = fr0 := rfl
theorem argFr_cons (n : Nat) (v : AVal) (vs : List AVal) : argFr n (v :: vs) = upd (argFr (n + 1) vs) n v := rfl
theorem pv_int {d : Nat} {k : IntKind} {n : Int} : pv d (.int k n) = .int k n := rfl
theorem pv_bool {d : Nat} {b : Bool} : pv d (.bool b) = .bool b := rfl
theorem pv_str {d : Nat} {b : ByteArray} : pv d (.str b) = .str b := rfl
theorem pv_ptr {d i j k : Nat} : pv d (.ptr i j k) = .ptr i j k := rfl
theorem pv_pptr {d i j : Nat} : pv d (.pptr i j) = .pptr i j := rfl
theorem pv_pbox {d : Nat} {cs : List AVal} : pv d (.pbox cs) = .pptr d 0 := rfl
theorem pv_nils {d : Nat} : pv d .nils = .nils := rfl
theorem pv_slice {d i j k : Nat} : pv d (.slice i j k) = .slice i j k := rfl
theorem pv_list {d : Nat} {es : Obj'} : pv d (.list es) = .list es := rfl
theorem pv_iptr {d i c : Nat} {es : Obj'} : pv d (.iptr es i c) = .iptr es i c := rfl
theorem pv_func {d f : Nat} {cs : List AVal} : pv d (.func f cs) = .func f cs := rfl
theorem pv_nilf {d : Nat} : pv d .nilf = .nilf := rfl
theorem pv_iface {d t : Nat} {v : AVal} : pv d (.iface t v) = .iface t v := rfl
theorem pv_agg {d : Nat} {cs : List AVal} : pv d (.agg cs) = .agg cs := rfl
theorem pv_meth {d : Nat} : pv d .meth = .meth := rfl
theorem pv_anyb {d : Nat} : pv d .anyb = .anyb := rfl
theorem kv_meth : kv .meth = .meth := rfl
theorem kv_anyb : kv .anyb = .anyb := rfl
theorem pv_tuple {d : Nat} {cs : List AVal} : pv d (.tuple cs) = .tuple cs := rfl
theorem kv_int {k : IntKind} {n : Int} : kv (.int k n) = .int k n := rfl
theorem kv_bool {b : Bool} : kv (.bool b) = .bool b := rfl
theorem kv_undef : kv .undef = .undef := rfl
theorem kv_str {b : ByteArray} : kv (.str b) = .str b := rfl
theorem kv_ptr {i j k : Nat} : kv (.ptr i j k) = .ptr i j k := rfl
theorem kv_pbox {cs : List AVal} : kv (.pbox cs) = .pbox cs := rfl
theorem kv_nils : kv .nils = .nils := rfl
theorem kv_slice {i j k : Nat} : kv (.slice i j k) = .slice i j k := rfl
theorem kv_list {es : Obj'} : kv (.list es) = .list es := rfl
theorem kv_iptr {i c : Nat} {es : Obj'} : kv (.iptr es i c) = .iptr es i c := rfl
theorem kv_func {f : Nat} {cs : List AVal} : kv (.func f cs) = .func f cs := rfl
theorem kv_nilf : kv .nilf = .nilf := rfl
theorem kv_iface {t : Nat} {v : AVal} : kv (.iface t v) = .iface t v := rfl
theorem kv_agg {cs : List AVal} : kv (.agg cs) = .agg cs := rfl
theorem kv_tuple {cs : List AVal} : kv (.tuple cs) = .tuple cs := rfl
theorem gv_int {k : IntKind} {n : Int} : gv (.int k n) = some (.int k n) := rfl
theorem gv_bool {b : Bool} : gv (.bool b) = some (.bool b) := rfl
theorem gv_str {b : ByteArray} : gv (.str b) = some (.str b) := rfl
theorem gv_ptr {i j k : Nat} : gv (.ptr i j k) = some (.ptr i j k) := rfl
theorem gv_nils : gv .nils = some .nils := rfl
theorem gv_slice {i j k : Nat} : gv (.slice i j k) = some (.slice i j k) := rfl
theorem gv_list {es : Obj'} : gv (.list es) = some (.list es) := rfl
theorem gv_iptr {i c : Nat} {es : Obj'} : gv (.iptr es i c) = some (.iptr es i c) := rfl
theorem gv_func {f : Nat} {cs : List AVal} : gv (.func f cs) = some (.func f cs) := rfl
theorem gv_nilf : gv .nilf = some .nilf := rfl
theorem gv_iface {t : Nat} {v : AVal} : gv (.iface t v) = some (.iface t v) := rfl
theorem gv_agg {cs : List AVal} : gv (.agg cs) = some (.agg cs) := rfl
theorem gv_tuple {cs : List AVal} : gv (.tuple cs) = some (.tuple cs) := rfl
theorem co_int {k : IntKind} {n : Int} : cellsOf (.int k n) = some [.int k n] := rfl
theorem co_bool {b : Bool} : cellsOf (.bool b) = some [.bool b] := rfl
theorem co_str {b : ByteArray} : cellsOf (.str b) = some [.str b] := rfl
theorem co_ptr {i j k : Nat} : cellsOf (.ptr i j k) = some [.ptr i j k] := rfl
theorem co_nils : cellsOf .nils = some [.nils] := rfl
theorem co_slice {i j k : Nat} : cellsOf (.slice i j k) = some [.slice i j k] := rfl
theorem co_list {es : Obj'} : cellsOf (.list es) = some [.list es] := rfl
theorem co_func {f : Nat} {cs : List AVal} : cellsOf (.func f cs) = some [.func f cs] := rfl
theorem co_nilf : cellsOf .nilf = some [.nilf] := rfl
theorem co_agg {cs : List AVal} : cellsOf (.agg cs) = some cs := rfl
attribute [simp] S_fzb fbS_some fbV
attribute [simp] pv_meth pv_anyb kv_meth kv_anyb S_sl0 sl0V S_isnil S_mkm mkmV S_mki mkiV_some S_inv S_fz
attribute [simp] pv_int pv_bool pv_str pv_ptr pv_pptr pv_pbox pv_nils pv_slice pv_list pv_iptr pv_func pv_nilf pv_iface pv_agg pv_tuple
  kv_int kv_bool kv_undef kv_str kv_ptr kv_pbox kv_nils kv_slice kv_list kv_iptr kv_func kv_nilf kv_iface kv_agg kv_tuple
  gv_int gv_bool gv_str gv_ptr gv_nils gv_slice gv_list gv_iptr gv_func gv_nilf gv_iface gv_agg gv_tuple
  co_int co_bool co_str co_ptr co_nils co_slice co_list co_func co_nilf co_agg
theorem kp_nil (fr : Fr) : kp [] fr = fr0 := rfl
theorem kp_cons (d : Nat) (ds : List Nat) (fr : Fr) : kp (d :: ds) fr = upd (kp ds fr) d (kv (fr d)) := rfl
theorem gev_def (fr : Fr) (x : Opd) : x.gev fr = gv (x.ev fr) := rfl
theorem fin_n {res : List ARes} {fr : Fr} {G : AG} : fin res (.normal, fr, G) = (resAll res fr).bind fun v => some (v, G) := rfl
theorem fin_r {res : List ARes} {fr : Fr} {G : AG} : fin res (.ret, fr, G) = (resAll res fr).bind fun v => some (v, G) := rfl
attribute [simp] unw_fin unw_seq unw_seq_r unw_seq_x unw_block_n unw_block_r unw_block_x unw_loop unw_loop_r unw_loop_x
  S_skip S_ret S_exit S_seq S_block S_cond S_reg cndS_t cndS_f S_nil putS_some putS_none retS_some put_some put_none S_grd gS_t gS_f gS_n resG
  S_mv pickv_bb pickv_t pickv_f S_pick S_boxP S_allocP bxS_u S_boxH S_allocH newV_some newA S_build bldV_some S_litI litV_some S_litO litW_nil litW_cons ldA_iptr ldA_pptr ldA_ptr S_load S_nilck nilckV S_bin binV_some ntV S_nt negV S_neg fldV S_fld S_idx
  extV S_ext fieldV S_fieldv lenV S_len slenV S_slen S_app S_call callV_some S_callv callvV_some S_mkf mkfV_some S_mks S_sl convV S_conv S_mxn mxO_some mxV stS_p stS_h stP_box bS_some hS_some S_st frG_p frG_s frS_some S_free agS_ok S_ag S_agi S_ags
  upd_at fr0_at ev_t ev_c argFr_nil argFr_cons kp_nil kp_cons gev_def fin_n fin_r resAll resV resVs gevs gcells gcellss partsOf fillB splice ldv intBin binv S_eqk eqkO_some eqkv_b eqkv_bn eqkv_fn eqkv_nn eqkv_st eqks boundOf
/-! ## calls of functions that see nothing of the heap -/
section
variable (AP : Nat → Option AFn) (mt : Nat → Nat → Option Nat)
/-- What is answered, written out, and the next number. -/
noncomputable def prun (f : Nat) (as : List AVal) (n : Nat) : Option (AVal × Nat) :=
  (run AP mt f as ⟨n, noObj⟩).bind fun r => open Classical in if n ≤ r.2.next then (frz 8 r.2.obj r.1).map fun v => (v, r.2.next) else none
noncomputable def nxt (f : Nat) (as : List AVal) (n : Nat) : Nat := ((prun AP mt f as n).map (·.2)).getD n
variable {AP mt}
theorem nxt_le {f : Nat} {as : List AVal} {n : Nat} : n ≤ nxt AP mt f as n := by
  unfold nxt
  cases h : prun AP mt f as n with
  | none => simp
  | some r =>
    simp only [Option.map_some, Option.getD_some]
    unfold prun at h
    simp only [Option.bind_eq_some_iff] at h
    obtain ⟨s, _, h⟩ := h
    split at h
    · rename_i hle
      simp only [Option.map_eq_some_iff] at h
      obtain ⟨v, _, rfl⟩ := h
      exact hle
    · cases h
theorem prun_nxt {f : Nat} {as : List AVal} {n : Nat} {r : AVal} (h : ∃ m, prun AP mt f as n = some (r, m)) : prun AP mt f as n = some (r, nxt AP mt f as n) := by
  obtain ⟨m, h⟩ := h
  unfold nxt
  rw [h]; rfl
/-- A run that leaves no object behind. -/
theorem prun_of {f : Nat} {as : List AVal} {n m : Nat} {r v : AVal} {g : Heap'} (h : run AP mt f as ⟨n, noObj⟩ = some (r, ⟨m, g⟩)) (hm : n ≤ m) (hf : frz 8 g r = some v) : prun AP mt f as n = some (v, nxt AP mt f as n) :=
  prun_nxt ⟨m, by unfold prun; rw [h]; simp only [Option.bind_some, if_pos hm, hf, Option.map_some]⟩
theorem call_alone {f : Nat} {as as' : List AVal} {G : AG} {v : AVal} (ha : frzs noObj as = some as') (h : prun AP mt f as' G.next = some (v, nxt AP mt f as' G.next)) :
    callBy (run AP mt) (.alone false true) f as G = some (v, ⟨nxt AP mt f as' G.next, G.obj⟩) := by
  unfold prun at h
  simp only [Option.bind_eq_some_iff] at h
  obtain ⟨r, hr, h⟩ := h
  split at h
  · rename_i hle
    simp only [Option.map_eq_some_iff] at h
    obtain ⟨u, hu, h⟩ := h
    injection h with h1 h2
    subst h1
    rw [← h2]
    unfold callBy
    simp [ha, hr, hle, hu]
  · cases h
end
end Go.Ai
