/- The specification's tests as plain functions. -/
import Derived.Test.YtffliemhdjcflaaAiL3
set_option linter.unusedSimpArgs false
set_option linter.unusedVariables false
namespace Go.Ai
variable {mt : Nat → Nat → Option Nat}
attribute [local simp] cnd_ite gS_ite
def inR (n lo hi : Int) : Bool := decide (lo ≤ n) && decide (n ≤ hi)
theorem r_55 (n lo hi : Int) : Q mt 55 [vi n, vi lo, vi hi] (.bool (inR n lo hi)) := by
  refine Q.of rfl (fun k => ?_)
  rw [run_evS AP_55 _ _ rfl]
  simp [c_55]
  repeat' (first | (exfalso; omega) | (refine Gv.bool (by repeat (first | exact Nat.le_refl _ | apply le_nxt)) ?_; simp [inR, *]; done) | refine Gv.ite (fun h => ?_) (fun h => ?_) | simp [*])
theorem r_66 (n lo hi : Int) : Q mt 66 [vi n, vi lo, vi hi] (.bool (inR n lo hi)) := by
  refine Q.of rfl (fun k => ?_)
  rw [run_evS AP_66 _ _ rfl]
  simp [c_66]
  repeat' (first | (exfalso; omega) | (refine Gv.bool (by repeat (first | exact Nat.le_refl _ | apply le_nxt)) ?_; simp [inR, *]; done) | refine Gv.ite (fun h => ?_) (fun h => ?_) | simp [*])
/-- What may stand in an integer of 64 bits. -/
def I64 (x : Int) : Prop := -9223372036854775808 ≤ x ∧ x ≤ 9223372036854775807
def valOk (v : GVal) (n : Int) : Bool :=
  if v.kind = 0 then decide (v.num = 0) else if v.kind = 1 then inR v.num 0 999 else if v.kind = 2 then inR v.num 0 (n - 1) else false
theorem r_83 (v : GVal) (n : Int) (hn : 0 ≤ n ∧ n ≤ 4611686018427387904) : Q mt 83 [aVal v, vi n] (.bool (valOk v n)) := by
  have q := fun a b c => r_55 (mt := mt) a b c
  unfold Q at q
  have hw : IntKind.i64.wrap (n - 1) = n - 1 := wrap_id (by omega) (by omega)
  refine Q.of rfl (fun k => ?_)
  rw [run_evS AP_83 _ _ rfl]
  simp [c_83, q, hw]
  repeat' (first | (exfalso; omega) | (refine Gv.bool (by repeat (first | exact Nat.le_refl _ | apply le_nxt)) ?_; simp [valOk, *]; done) | refine Gv.ite (fun h => ?_) (fun h => ?_) | simp [*])
def opOk (p : GProg) (m : GMethod) (o : GOp) : Bool :=
  if o.kind = 1 then inR o.a 0 99
  else if o.kind = 2 ∨ o.kind = 3 then inR o.a 0 (m.temps - 1)
  else if o.kind = 7 ∨ o.kind = 8 then inR o.a 0 (m.ops.length - 1)
  else if o.kind = 9 then inR o.a 0 (p.length - 1)
  else if o.kind = 13 ∨ o.kind = 14 then inR o.a 0 3
  else inR o.kind 1 18 && decide (o.a = 0)
theorem r_106 (p : GProg) (m : GMethod) (o : GOp) (ht : 0 ≤ m.temps ∧ m.temps ≤ 1000) (hm : m.ops.length ≤ 1048576) (hp : p.length ≤ 1048576) : Q mt 106 [aProg p, aMethod m, aOp o] (.bool (opOk p m o)) := by
  have q := fun a b c => r_55 (mt := mt) a b c
  unfold Q at q
  have hw : IntKind.i64.wrap (m.temps - 1) = m.temps - 1 := wrap_id (by omega) (by omega)
  have hw2 : IntKind.i64.wrap ((m.ops.length : Int) - 1) = m.ops.length - 1 := wrap_id (by omega) (by omega)
  have hw3 : IntKind.i64.wrap ((p.length : Int) - 1) = p.length - 1 := wrap_id (by omega) (by omega)
  refine Q.of rfl (fun k => ?_)
  rw [run_evS AP_106 _ _ rfl]
  simp [c_106, q, hw, hw2, hw3]
  repeat' (first | (exfalso; omega) | (refine Gv.bool (by repeat (first | exact Nat.le_refl _ | apply le_nxt)) ?_; simp [opOk, *]; done) | refine Gv.ite (fun h => ?_) (fun h => ?_) | simp [*])
end Go.Ai
