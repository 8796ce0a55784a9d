/- The run without fuel: the limit of the runs, and its equations. -/
import Derived.Test.YtffliemhdjcflaaAiA
namespace Go.Ai

def Mono {α : Type} (f : Nat → Option α) : Prop := ∀ n m r, n ≤ m → f n = some r → f m = some r
open Classical in
noncomputable def lim {α : Type} (f : Nat → Option α) : Option α := if h : ∃ n r, f n = some r then f h.choose else none

theorem lim_some {α : Type} {f : Nat → Option α} (hf : Mono f) {r : α} : lim f = some r ↔ ∃ n, f n = some r := by
  unfold lim
  constructor
  · intro h
    split at h
    · rename_i hh; exact ⟨_, h⟩
    · cases h
  · rintro ⟨n, hn⟩
    have hh : ∃ n r, f n = some r := ⟨n, r, hn⟩
    rw [dif_pos hh]
    obtain ⟨r', hr'⟩ := hh.choose_spec
    have h1 := hf _ (max n hh.choose) _ (by omega) hn
    have h2 := hf _ (max n hh.choose) _ (by omega) hr'
    rw [hr']; rw [h1] at h2; exact h2.symm

theorem opt_ext {α : Type} {x y : Option α} (h : ∀ r, x = some r ↔ y = some r) : x = y := by
  cases x with
  | none => cases y with
    | none => rfl
    | some b => exact absurd ((h b).2 rfl) (by simp)
  | some a => exact ((h a).1 rfl).symm

theorem Mono.const {α : Type} (x : Option α) : Mono (fun _ => x) := fun _ _ _ _ h => h
theorem lim_const {α : Type} (x : Option α) : lim (fun _ => x) = x := opt_ext fun r => by rw [lim_some (Mono.const x)]; simp
theorem Mono.bind {α β : Type} {f : Nat → Option α} {g : Nat → α → Option β} (hf : Mono f) (hg : ∀ a, Mono fun n => g n a) : Mono (fun n => (f n).bind (g n)) := by
  intro n m r h hr
  simp only [Option.bind_eq_some_iff] at hr ⊢
  obtain ⟨a, ha, hb⟩ := hr
  exact ⟨a, hf _ _ _ h ha, hg a _ _ _ h hb⟩
theorem lim_bind {α β : Type} {f : Nat → Option α} {g : Nat → α → Option β} (hf : Mono f) (hg : ∀ a, Mono fun n => g n a) :
    lim (fun n => (f n).bind (g n)) = (lim f).bind fun a => lim fun n => g n a := opt_ext fun r => by
  rw [lim_some (Mono.bind hf hg)]
  simp only [Option.bind_eq_some_iff]
  constructor
  · rintro ⟨n, a, ha, hb⟩
    exact ⟨a, (lim_some hf).2 ⟨n, ha⟩, (lim_some (hg a)).2 ⟨n, hb⟩⟩
  · rintro ⟨a, ha, hb⟩
    obtain ⟨n, hn⟩ := (lim_some hf).1 ha
    obtain ⟨m, hm⟩ := (lim_some (hg a)).1 hb
    exact ⟨max n m, a, hf _ _ _ (by omega) hn, hg a _ _ _ (by omega) hm⟩
theorem lim_bind_c {α β : Type} {f : Nat → Option α} (hf : Mono f) (g : α → Option β) : lim (fun n => (f n).bind g) = (lim f).bind g := by
  rw [lim_bind (g := fun _ => g) hf fun a => Mono.const _]
  congr 1; funext a; exact lim_const _
theorem Mono.ite {α : Type} {c : Prop} [Decidable c] {f g : Nat → Option α} (hf : Mono f) (hg : Mono g) : Mono (fun n => if c then f n else g n) := by
  split <;> assumption
theorem lim_ite {α : Type} {c : Prop} [Decidable c] {f g : Nat → Option α} : lim (fun n => if c then f n else g n) = if c then lim f else lim g := by
  split <;> rfl

/-- What uses a call: it follows a rising row of calls, to its limit. -/
structure Fin' {α : Type} (c : Nat → CallF) (l : CallF) (F : CallF → Option α) : Prop where
  mono : Mono fun n => F (c n)
  lim : lim (fun n => F (c n)) = F l
section
variable {α β : Type} {c : Nat → CallF} {l : CallF}
theorem Fin'.const (x : Option α) : Fin' c l (fun _ => x) := ⟨Mono.const x, lim_const x⟩
theorem Fin'.bind {F : CallF → Option α} {H : CallF → α → Option β} (hF : Fin' c l F) (hH : ∀ a, Fin' c l fun k => H k a) : Fin' c l (fun k => (F k).bind (H k)) :=
  ⟨Mono.bind hF.mono fun a => (hH a).mono, by
    rw [lim_bind hF.mono fun a => (hH a).mono, hF.lim]
    congr 1; funext a; exact (hH a).lim⟩
theorem Fin'.ite {p : Prop} [Decidable p] {F H : CallF → Option α} (hF : Fin' c l F) (hH : Fin' c l H) : Fin' c l (fun k => if p then F k else H k) := by
  split <;> assumption
theorem Fin'.app (hm : ∀ f as G, Mono fun n => c n f as G) (hl : ∀ f as G, Go.Ai.lim (fun n => c n f as G) = l f as G) (f : Nat) (as : List AVal) (G : AG) : Fin' c l (fun k => k f as G) := ⟨hm f as G, hl f as G⟩

variable (hm : ∀ f as G, Mono fun n => c n f as G) (hl : ∀ f as G, Go.Ai.lim (fun n => c n f as G) = l f as G)
include hm hl
theorem Fin'.callBy (m : CM) (f : Nat) (as : List AVal) (G : AG) : Fin' c l (fun k => callBy k m f as G) := by
  cases m with
  | whole => exact Fin'.app hm hl f as G
  | alone s z =>
    unfold Go.Ai.callBy
    exact .bind (.const _) fun as' => .bind (Fin'.app hm hl _ _ _) fun r => .const _
theorem Fin'.evOp (mt : Nat → Nat → Option Nat) (fr : Fr) (G : AG) (o : AOp) : Fin' c l (fun k => evOp k mt fr G o) := by
  cases o
  case call m f as => exact .bind (.const _) fun vs => Fin'.callBy hm hl m f vs G
  case callv m x as =>
    simp only [Go.Ai.evOp]
    split
    · exact .bind (.const _) fun vs => Fin'.callBy hm hl m _ _ G
    · exact .const _
  case inv x name as =>
    simp only [Go.Ai.evOp]
    split
    · exact .bind (.const _) fun f => .bind (.const _) fun vs => Fin'.callBy hm hl .whole _ _ G
    · exact .const _
  all_goals exact .const _
theorem Fin'.evD (mt : Nat → Nat → Option Nat) (i : AI) (fr : Fr) (G : AG) : Fin' c l (fun k => evD k mt i fr G) := by
  obtain ⟨j, dst, grd, op⟩ := i
  cases op
  case again t o => exact .bind (Fin'.evOp hm hl mt fr G o) fun _ => .const _
  case boxP x => exact .const _
  case allocP x => exact .const _
  case store n x v => exact .const _
  case free t => exact .const _
  all_goals first | exact .bind (Fin'.evOp hm hl mt fr G _) fun _ => .const _ | exact .const _
theorem Fin'.evI (mt : Nat → Nat → Option Nat) (i : AI) (fr : Fr) (G : AG) : Fin' c l (fun k => evI k mt i fr G) := by
  unfold Go.Ai.evI
  split
  · exact Fin'.evD hm hl mt i fr G
  · split
    · exact .ite (Fin'.evD hm hl mt i fr G) (.const _)
    · exact .const _
    · exact .const _
theorem Fin'.evIs (mt : Nat → Nat → Option Nat) (is : List AI) : ∀ (fr : Fr) (G : AG), Fin' c l (fun k => evIs k mt is fr G) := by
  induction is with
  | nil => exact fun _ _ => .const _
  | cons i is ih => exact fun fr G => .bind (Fin'.evI hm hl mt i fr G) fun s => ih s.1 s.2
end

section
variable {c : Nat → CallF} {l : CallF} (hm : ∀ f as G, Mono fun n => c n f as G) (hl : ∀ f as G, lim (fun n => c n f as G) = l f as G) (mt : Nat → Nat → Option Nat)

theorem iter_mono {g h : Fr → AG → Option St3} (hg : ∀ fr G r, g fr G = some r → h fr G = some r) :
    ∀ n m, n ≤ m → ∀ fr G r, iter g n fr G = some r → iter h m fr G = some r := by
  intro n
  induction n with
  | zero => intro m _ fr G r hr; cases hr
  | succ n ih =>
    intro m hm fr G r hr
    obtain ⟨m, rfl⟩ : ∃ k, m = k + 1 := ⟨m - 1, by omega⟩
    simp only [iter, Option.bind_eq_some_iff] at hr ⊢
    obtain ⟨s, hs, hr⟩ := hr
    refine ⟨s, hg _ _ _ hs, ?_⟩
    split
    · rename_i hn; rw [if_pos hn] at hr; exact ih m (by omega) _ _ _ hr
    · rename_i hn; rw [if_neg hn] at hr; exact hr
include hm hl in
theorem evC_mono (a : AC) : ∀ fr G, Mono fun n => evC (c n) mt n a fr G := by
  induction a with
  | skip => exact fun _ _ => Mono.const _
  | ret => exact fun _ _ => Mono.const _
  | exit id => exact fun _ _ => Mono.const _
  | seq a b iha ihb => exact fun fr G => Mono.bind (iha fr G) fun r => Mono.ite (ihb _ _) (Mono.const _)
  | cond x a b iha ihb =>
    intro fr G
    simp only [evC]
    split
    · exact Mono.ite (iha fr G) (ihb fr G)
    · exact Mono.const _
  | block id a iha => exact fun fr G => Mono.bind (iha fr G) fun r => Mono.const _
  | loop a iha => exact fun fr G n m r h hr => iter_mono (fun fr G r hr => iha fr G n m r h hr) n m h fr G r hr
  | reg ops ks => exact fun fr G => Mono.bind (Fin'.evIs hm hl mt ops fr G).mono fun s => Mono.const _
end

section
variable (AP : Nat → Option AFn) (mt : Nat → Nat → Option Nat)
theorem runF_mono : ∀ n f as G, ∀ r, runF AP mt n f as G = some r → runF AP mt (n + 1) f as G = some r := by
  have key : ∀ n, (∀ f as G r, runF AP mt n f as G = some r → runF AP mt (n + 1) f as G = some r) := by
    intro n
    induction n with
    | zero => intro f as G r h; cases h
    | succ n ih =>
      intro f as G r h
      have hc : ∀ (a : AC) fr G, ∀ r, evC (runF AP mt n) mt n a fr G = some r → evC (runF AP mt (n + 1)) mt (n + 1) a fr G = some r := by
        intro a fr G r hr
        -- a row of two steps
        let c : Nat → CallF := fun k => if k = 0 then runF AP mt n else runF AP mt (n + 1)
        have hm : ∀ f as G, Mono fun k => c k f as G := by
          intro f as G i j r hij hr
          simp only [c] at hr ⊢
          by_cases hi : i = 0
          · rw [if_pos hi] at hr
            by_cases hj : j = 0
            · rw [if_pos hj]; exact hr
            · rw [if_neg hj]; exact ih _ _ _ _ hr
          · rw [if_neg hi] at hr; rw [if_neg (by omega)]; exact hr
        have hops : ∀ (is : List AI) fr G r, evIs (runF AP mt n) mt is fr G = some r → evIs (runF AP mt (n + 1)) mt is fr G = some r := by
          intro is fr G r h
          have := (Fin'.evIs (c := c) (l := fun f as G => lim fun k => c k f as G) hm (fun _ _ _ => rfl) mt is fr G).mono 0 1 r (by omega)
          simp only [c, if_true] at this
          simpa using this h
        induction a generalizing fr G r with
        | skip => exact hr
        | ret => exact hr
        | exit id => exact hr
        | seq a b iha ihb =>
          simp only [evC, Option.bind_eq_some_iff] at hr ⊢
          obtain ⟨s, hs, hr⟩ := hr
          refine ⟨s, iha _ _ _ hs, ?_⟩
          split
          · rename_i hn; rw [if_pos hn] at hr; exact ihb _ _ _ hr
          · rename_i hn; rw [if_neg hn] at hr; exact hr
        | cond x a b iha ihb =>
          simp only [evC] at hr ⊢
          split
          · rename_i t ht
            rw [ht] at hr
            simp only at hr
            split
            · rename_i h1; rw [if_pos h1] at hr; exact iha _ _ _ hr
            · rename_i h1; rw [if_neg h1] at hr; exact ihb _ _ _ hr
          · rename_i hh
            split at hr
            · rename_i t ht; exact absurd ht (hh t)
            · cases hr
        | block id a iha =>
          simp only [evC, Option.bind_eq_some_iff] at hr ⊢
          obtain ⟨s, hs, hr⟩ := hr
          exact ⟨s, iha _ _ _ hs, hr⟩
        | loop a iha => exact iter_mono (fun fr G r hr => iha fr G r hr) n (n + 1) (by omega) fr G r hr
        | reg ops ks =>
          simp only [evC, Option.bind_eq_some_iff] at hr ⊢
          obtain ⟨s, hs, hr⟩ := hr
          exact ⟨s, hops _ _ _ _ hs, hr⟩
      simp only [runF, Option.bind_eq_some_iff] at h ⊢
      obtain ⟨fn, hfn, h⟩ := h
      refine ⟨fn, hfn, ?_⟩
      split
      · rename_i hlen
        rw [if_pos hlen, Option.bind_eq_some_iff] at h
        obtain ⟨s, hs, h⟩ := h
        rw [Option.bind_eq_some_iff]
        exact ⟨s, hc _ _ _ _ hs, h⟩
      · rename_i hlen
        rw [if_neg hlen] at h
        cases h
  exact fun n f as G r h => key n f as G r h
theorem runF_Mono (f : Nat) (as : List AVal) (G : AG) : Mono fun n => runF AP mt n f as G := by
  intro n m r h hr
  induction m with
  | zero => obtain rfl : n = 0 := by omega
            exact hr
  | succ m ih =>
    by_cases e : n = m + 1
    · subst e; exact hr
    · exact runF_mono AP mt m f as G r (ih (by omega))

noncomputable def run : CallF := fun f as G => lim fun n => runF AP mt n f as G
noncomputable def ev (a : AC) (fr : Fr) (G : AG) : Option St3 := lim fun n => evC (runF AP mt n) mt n a fr G

theorem run_some {f : Nat} {as : List AVal} {G : AG} {r : AVal × AG} : run AP mt f as G = some r ↔ ∃ n, runF AP mt n f as G = some r := lim_some (runF_Mono AP mt f as G)
theorem evm (a : AC) (fr : Fr) (G : AG) : Mono fun n => evC (runF AP mt n) mt n a fr G := evC_mono (l := run AP mt) (runF_Mono AP mt) (fun _ _ _ => rfl) mt a fr G

theorem ev_skip (fr : Fr) (G : AG) : ev AP mt .skip fr G = some (.normal, fr, G) := lim_const _
theorem ev_ret (fr : Fr) (G : AG) : ev AP mt .ret fr G = some (.ret, fr, G) := lim_const _
theorem ev_exit (id : Nat) (fr : Fr) (G : AG) : ev AP mt (.exit id) fr G = some (.exit id, fr, G) := lim_const _
theorem ev_seq (a b : AC) (fr : Fr) (G : AG) : ev AP mt (.seq a b) fr G = (ev AP mt a fr G).bind fun r => if r.1 = .normal then ev AP mt b r.2.1 r.2.2 else some r := by
  show lim (fun n => (evC (runF AP mt n) mt n a fr G).bind fun r => if r.1 = .normal then evC (runF AP mt n) mt n b r.2.1 r.2.2 else some r) = _
  rw [lim_bind (evm AP mt a fr G) fun r => Mono.ite (evm AP mt b _ _) (Mono.const _)]
  congr 1; funext r
  rw [lim_ite, lim_const]
  rfl
theorem ev_cond (c : Opd) (a b : AC) (fr : Fr) (G : AG) : ev AP mt (.cond c a b) fr G = match c.ev fr with
    | .bool t => if t = true then ev AP mt a fr G else ev AP mt b fr G
    | _ => none := by
  unfold ev
  simp only [evC]
  cases c.ev fr <;> first | exact lim_const _ | exact lim_ite
theorem ev_block (id : Nat) (a : AC) (fr : Fr) (G : AG) : ev AP mt (.block id a) fr G = (ev AP mt a fr G).bind fun r => some (if r.1 = .exit id then .normal else r.1, r.2) := by
  show lim (fun n => (evC (runF AP mt n) mt n a fr G).bind fun r => some (if r.1 = .exit id then .normal else r.1, r.2)) = _
  exact lim_bind_c (evm AP mt a fr G) _
theorem ev_reg (ops : List AI) (ks : List Nat) (fr : Fr) (G : AG) : ev AP mt (.reg ops ks) fr G = (evIs (run AP mt) mt ops fr G).bind fun s => some (.normal, kp ks s.1, s.2) := by
  have hF := Fin'.evIs (c := fun n => runF AP mt n) (l := run AP mt) (runF_Mono AP mt) (fun _ _ _ => rfl) mt ops fr G
  show lim (fun n => (evIs (runF AP mt n) mt ops fr G).bind fun s => some (Ex.normal, kp ks s.1, s.2)) = _
  rw [lim_bind_c hF.mono, hF.lim]
theorem ev_loop (a : AC) (fr : Fr) (G : AG) : ev AP mt (.loop a) fr G = (ev AP mt a fr G).bind fun r => if r.1 = .normal then ev AP mt (.loop a) r.2.1 r.2.2 else some r := by
  apply opt_ext
  intro r
  have h1 : ev AP mt (.loop a) fr G = some r ↔ ∃ n, iter (evC (runF AP mt n) mt n a) n fr G = some r := lim_some (evm AP mt (.loop a) fr G)
  rw [h1, Option.bind_eq_some_iff]
  constructor
  · rintro ⟨n, hn⟩
    cases n with
    | zero => cases hn
    | succ n =>
      simp only [iter, Option.bind_eq_some_iff] at hn
      obtain ⟨s, hs, hn⟩ := hn
      refine ⟨s, (lim_some (evm AP mt a fr G)).2 ⟨_, hs⟩, ?_⟩
      split
      · rename_i e
        rw [if_pos e] at hn
        refine (lim_some (evm AP mt (.loop a) _ _)).2 ⟨n + 1, ?_⟩
        exact iter_mono (fun _ _ _ h => h) n (n + 1) (by omega) _ _ _ hn
      · rename_i e; rw [if_neg e] at hn; exact hn
  · rintro ⟨s, hs, hr⟩
    obtain ⟨n, hn⟩ := (lim_some (evm AP mt a fr G)).1 hs
    split at hr
    · rename_i e
      obtain ⟨m, hm⟩ := (lim_some (evm AP mt (.loop a) _ _)).1 hr
      refine ⟨max n m + 1, ?_⟩
      simp only [iter, Option.bind_eq_some_iff]
      refine ⟨s, evm AP mt a fr G _ _ _ (by omega) hn, ?_⟩
      rw [if_pos e]
      exact iter_mono (fun fr G r h => evm AP mt a fr G m (max n m + 1) r (by omega) h) m (max n m) (by omega) _ _ _ hm
    · rename_i e
      refine ⟨n + 1, ?_⟩
      simp only [iter, Option.bind_eq_some_iff]
      exact ⟨s, evm AP mt a fr G _ _ _ (by omega) hn, by rw [if_neg e]; exact hr⟩
noncomputable def fin (res : List ARes) (r : St3) : Option (AVal × AG) :=
  match r.1 with
  | .exit _ => none
  | _ => (resAll res r.2.1).bind fun v => some (v, r.2.2)
theorem run_eq {f : Nat} {fn : AFn} (hf : AP f = some fn) (as : List AVal) (G : AG) (hl : as.length = fn.np) :
    run AP mt f as G = (ev AP mt fn.body (argFr 0 as) G).bind (fin fn.res) := by
  have h0 : run AP mt f as G = lim fun n => (evC (runF AP mt n) mt n fn.body (argFr 0 as) G).bind (fin fn.res) := by
    apply opt_ext
    intro r
    rw [run_some, lim_some (Mono.bind (g := fun _ => fin fn.res) (evm AP mt fn.body _ G) fun _ => Mono.const _)]
    constructor
    · rintro ⟨n, hn⟩
      cases n with
      | zero => cases hn
      | succ n =>
        simp only [runF, hf, Option.bind_some, hl, if_true] at hn
        exact ⟨n, hn⟩
    · rintro ⟨n, hn⟩
      exact ⟨n + 1, by simp only [runF, hf, Option.bind_some, hl, if_true]; exact hn⟩
  rw [h0, lim_bind_c (evm AP mt fn.body _ G)]
  rfl
end
end Go.Ai
