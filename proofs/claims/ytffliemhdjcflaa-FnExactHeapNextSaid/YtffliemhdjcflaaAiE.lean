/- Calls that see nothing of the heap, as equations; tests as 'if'. -/
import Derived.Test.YtffliemhdjcflaaAiD
set_option linter.unusedSimpArgs false
namespace Go.Ai
section
variable {AP : Nat → Option AFn} {mt : Nat → Nat → Option Nat}
/-- What is answered, written out; some next number. -/
def Gv (k : Nat) (v : AVal) (x : R) : Prop := ∃ r m g, x = some (r, ⟨m, g⟩) ∧ k ≤ m ∧ frz 8 g r = some v
theorem Gv.some {k m : Nat} {v r : AVal} {g : Heap'} (hm : k ≤ m) (hf : frz 8 g r = some v) : Gv k v (some (r, ⟨m, g⟩)) := ⟨r, m, g, rfl, hm, hf⟩
theorem Gv.bool {k m : Nat} {b c : Bool} {g : Heap'} (hm : k ≤ m) (h : b = c) : Gv k (.bool c) (Option.some (.bool b, ⟨m, g⟩)) := ⟨.bool b, m, g, rfl, hm, by rw [h]; rfl⟩
theorem Gv.ite {k : Nat} {v : AVal} {c : Prop} [Decidable c] {x y : R} (h1 : c → Gv k v x) (h2 : ¬ c → Gv k v y) : Gv k v (if c then x else y) := by
  split
  · exact h1 ‹_›
  · exact h2 ‹_›
theorem le_nxt {k n f : Nat} {as : List AVal} (h : k ≤ n) : k ≤ nxt AP mt f as n := Nat.le_trans h nxt_le
theorem q_of {f : Nat} {as : List AVal} {v : AVal} (ha : frzs noObj as = some as) (h : ∀ k, Gv k v (run AP mt f as ⟨k, noObj⟩)) (G : AG) : callBy (run AP mt) (.alone false true) f as G = some (v, ⟨nxt AP mt f as G.next, G.obj⟩) := by
  obtain ⟨r, m, g, h1, h2, h3⟩ := h G.next
  exact call_alone ha (prun_of h1 h2 h3)
theorem cnd_ite {b : Bool} {x y : AC} {fr : Fr} {G : AG} {S : List KF} : cndS AP mt (.bool b) x y fr G S = if b = true then evS AP mt x fr G S else evS AP mt y fr G S := by cases b <;> rfl
theorem gS_ite {b : Bool} {s : Nat} {is : List AI} {fr : Fr} {G : AG} {ks : List Nat} {S : List KF} : gS AP mt (.bool b) s is fr G ks S = if b = true then isS AP mt (resG s true is) fr G ks S else isS AP mt (resG s false is) fr G ks S := by cases b <;> rfl
end
end Go.Ai
