import Derived.Test.YtjggngbfmjneiaaDoorAbA
set_option linter.unusedVariables false
set_option linter.unusedSimpArgs false
namespace Go.Ab

theorem Rep.lit_inv {F : Mem} {M : Pls} {v u : Value} (h : Rep F M v (.d (.lit u))) : v = u := by
  cases h with
  | d h => cases h; rfl

theorem Rep.lit {F : Mem} {M : Pls} (u : Value) (h : litOk u = true := by rfl) : Rep F M u (.d (.lit u)) := .d (.lit u h)

/-! ### States -/
def getT (i : Nat) : List (Nat × V) → V
  | [] => .any
  | p :: l => if i = p.1 then p.2 else getT i l

structure St where
  n : Nat
  tm : List (Nat × V)
  hp : List O

def St.get (s : St) (i : Nat) : V := getT i s.tm
def St.put (s : St) (d : Option Tmp) (v : V) : St :=
  match d with
  | some d => if d < s.n then { s with tm := (d, v) :: s.tm } else s
  | none => s

def litC (v : Value) : V := if litOk v = true then .d (.lit v) else .any
theorem rep_litC (F : Mem) (M : Pls) (v : Value) : Rep F M v (litC v) := by
  unfold litC
  split
  · rename_i h; exact .lit v h
  · exact .any v

def ofC : Value → V
  | .agg cs => .agg (cs.toList.map litC)
  | v => litC v

def evO (g : Nat → V) : Operand → V
  | .tmp t => g t
  | .const v => ofC v
  | .global b => .d (.lit (.pointer (some ⟨b, 0, none⟩)))
  | .func f => .fn (.func f) [] []

def St.ev (s : St) (x : Operand) : V := evO s.get x

theorem rep_ofC (F : Mem) (M : Pls) (v : Value) : Rep F M v (ofC v) := by
  cases v with
  | agg cs =>
    refine .agg cs _ (by simp) fun j hj => ?_
    simp at hj
    simp [List.getD_eq_getElem?_getD, hj, Array.getD_eq_getD_getElem?]
    exact rep_litC _ _ _
  | _ => exact rep_litC _ _ _

/-- The frame and the world fit the state. -/
structure RelT (F : Mem) (M : Pls) (a : Act) (w : World) (g : Nat → V) (n : Nat) (H : List O) : Prop where
  defers : a.defers = []
  size : a.tmps.size = n
  inv : Inv F M w H
  tmps : ∀ t, Rep F M (a.tmps.getD t undef) (g t)

abbrev RelSt (F : Mem) (M : Pls) (a : Act) (w : World) (s : St) : Prop := RelT F M a w s.get s.n s.hp

theorem RelT.ev {F : Mem} {M : Pls} {a : Act} {w : World} {g : Nat → V} {n : Nat} {H : List O} (h : RelT F M a w g n H) (x : Operand) : Rep F M (a.eval x) (evO g x) := by
  cases x with
  | tmp t => exact h.tmps t
  | const v => exact rep_ofC F M v
  | global b => exact .lit _
  | func f => exact .fn _ #[] #[] [] [] rfl rfl (fun j hj => by simp at hj) (fun j hj => by simp at hj)

def putG (g : Nat → V) (n : Nat) (d : Option Tmp) (v : V) : Nat → V :=
  match d with
  | some d => if d < n then (fun t => if t = d then v else g t) else g
  | none => g

theorem St.get_put (s : St) (d : Option Tmp) (v : V) : (s.put d v).get = putG s.get s.n d v := by
  cases d with
  | none => rfl
  | some d =>
    unfold St.put putG
    dsimp only
    split
    · funext t; simp only [St.get, getT]
    · rfl
theorem St.n_put (s : St) (d : Option Tmp) (v : V) : (s.put d v).n = s.n := by
  cases d with
  | none => rfl
  | some d => unfold St.put; dsimp only; split <;> rfl
theorem St.hp_put (s : St) (d : Option Tmp) (v : V) : (s.put d v).hp = s.hp := by
  cases d with
  | none => rfl
  | some d => unfold St.put; dsimp only; split <;> rfl

theorem RelT.put {F F' : Mem} {M M' : Pls} {a : Act} {w w' : World} {g : Nat → V} {n : Nat} {H H' : List O} (h : RelT F M a w g n H)
    (hF : F.le F') (hM : Pls.le M M') (hi : Inv F' M' w' H') (d : Option Tmp) {v : Value} {x : V} (hv : Rep F' M' v x) : RelT F' M' (a.put d v) w' (putG g n d x) n H' := by
  cases d with
  | none => exact ⟨h.defers, h.size, hi, fun t => (h.tmps t).mono hF hM⟩
  | some d =>
    refine ⟨h.defers, by simp [Act.put, h.size], hi, fun t => ?_⟩
    simp only [Act.put, putG]
    by_cases hd : d < n
    · rw [if_pos hd]
      by_cases ht : t = d
      · subst ht
        rw [if_pos rfl]
        have : t < a.tmps.size := by rw [h.size]; exact hd
        simp [Array.getD_eq_getD_getElem?, this]
        exact hv
      · rw [if_neg ht]
        have : (a.tmps.setIfInBounds d v).getD t undef = a.tmps.getD t undef := by
          simp [Array.getD_eq_getD_getElem?, Array.getElem?_setIfInBounds, Ne.symm ht]
        rw [this]
        exact (h.tmps t).mono hF hM
    · rw [if_neg hd]
      have : a.tmps.setIfInBounds d v = a.tmps := by
        have hs := h.size
        apply Array.ext'
        simp
        rw [List.set_eq_of_length_le]
        simp only [Array.length_toList]
        exact hs ▸ Nat.le_of_not_lt hd
      rw [this]
      exact (h.tmps t).mono hF hM

theorem least_exists (p : Nat → Prop) (h : ∃ n, p n) : ∃ n, p n ∧ ∀ m, p m → n ≤ m := by
  obtain ⟨n, hn⟩ := h
  induction n using Nat.strongRecOn with
  | _ n ih =>
    by_cases h : ∃ m, m < n ∧ p m
    · obtain ⟨m, hm, hp⟩ := h
      exact ih m hm hp
    · refine ⟨n, hn, fun m hm => ?_⟩
      rcases Nat.lt_or_ge m n with h1 | h1
      · exact absurd ⟨m, h1, hm⟩ h
      · exact h1
open Classical in
noncomputable def least (p : Nat → Prop) : Nat := if h : ∃ n, p n then Classical.choose (least_exists p h) else 0
theorem least_spec {p : Nat → Prop} (h : ∃ n, p n) : p (least p) := by
  unfold least; rw [dif_pos h]; exact (Classical.choose_spec (least_exists p h)).1
theorem least_le {p : Nat → Prop} {m : Nat} (hm : p m) : least p ≤ m := by
  unfold least; rw [dif_pos ⟨m, hm⟩]; exact (Classical.choose_spec (least_exists p ⟨m, hm⟩)).2 m hm

/-! ### Code over states -/
section
variable {P : Program}

def SExec (P : Program) (c : Code) (s : St) (Q : Exit → St → Prop) : Prop :=
  ∀ F M w a, RelSt F M a w s → c.wp P (fun e a' w' => ∃ s' F' M', Q e s' ∧ RelSt F' M' a' w' s' ∧ Ext F M w F' M' w') a w

def thenS (K : St → Prop) (Q : Exit → St → Prop) : Exit → St → Prop
  | .normal, s => K s
  | e, s => Q e s

def blockS (id : Nat) (Q : Exit → St → Prop) : Exit → St → Prop
  | .exit id', s => if id' = id then Q .normal s else Q (.exit id') s
  | e, s => Q e s

theorem SExec.mono {c : Code} {s : St} {Q Q' : Exit → St → Prop} (h : SExec P c s Q) (k : ∀ e s, Q e s → Q' e s) : SExec P c s Q' :=
  fun F M w a r => wp_mono (h F M w a r) fun e a' w' ⟨s', F', M', q, r', x⟩ => ⟨s', F', M', k _ _ q, r', x⟩

theorem SExec.skip {s : St} {Q : Exit → St → Prop} (h : Q .normal s) : SExec P .skip s Q :=
  fun F M w a r => wp_skip ⟨s, F, M, h, r, .refl _ _ _⟩

theorem SExec.label {l : Nat} {s : St} {Q : Exit → St → Prop} (h : Q .normal s) : SExec P (.label l) s Q :=
  fun F M w a r => wp_label ⟨s, F, M, h, r, .refl _ _ _⟩

theorem SExec.exit {id : Nat} {s : St} {Q : Exit → St → Prop} (h : Q (.exit id) s) : SExec P (.exit id) s Q :=
  fun F M w a r => wp_exit ⟨s, F, M, h, r, .refl _ _ _⟩

theorem SExec.goto {l : Nat} {s : St} {Q : Exit → St → Prop} (h : Q (.goto l) s) : SExec P (.goto l) s Q :=
  fun F M w a r => wp_goto ⟨s, F, M, h, r, .refl _ _ _⟩

theorem SExec.ret {s : St} {Q : Exit → St → Prop} (h : Q .ret s) : SExec P .ret s Q :=
  fun F M w a r => wp_ret ⟨s, F, M, h, r, .refl _ _ _⟩

theorem SExec.seq {x y : Code} {s : St} {Q : Exit → St → Prop} (h : SExec P x s (thenS (fun s' => SExec P y s' Q) Q)) : SExec P (.seq x y) s Q := by
  intro F M w a r
  refine wp_seq (wp_mono (h F M w a r) ?_)
  rintro e a' w' ⟨s', F', M', q, r', x⟩
  cases e with
  | normal =>
    exact wp_mono (q F' M' w' a' r') fun e a'' w'' ⟨s'', F'', M'', q', r'', x'⟩ => ⟨s'', F'', M'', q', r'', x.trans x'⟩
  | exit id => exact ⟨s', F', M', q, r', x⟩
  | goto l => exact ⟨s', F', M', q, r', x⟩
  | ret => exact ⟨s', F', M', q, r', x⟩
  | panic ch => exact ⟨s', F', M', q, r', x⟩
  | outgrown => exact ⟨s', F', M', q, r', x⟩

theorem SExec.block {id : Nat} {c : Code} {s : St} {Q : Exit → St → Prop} (h : SExec P c s (blockS id Q)) : SExec P (.block id c) s Q := by
  intro F M w a r
  refine wp_block (wp_mono (h F M w a r) ?_)
  rintro e a' w' ⟨s', F', M', q, r', x⟩
  cases e with
  | exit id' =>
    simp only [Exit.inBlock, blockS] at *
    split at q <;> rename_i hid
    · rw [if_pos hid]; exact ⟨s', F', M', q, r', x⟩
    · rw [if_neg hid]; exact ⟨s', F', M', q, r', x⟩
  | normal => exact ⟨s', F', M', q, r', x⟩
  | goto l => exact ⟨s', F', M', q, r', x⟩
  | ret => exact ⟨s', F', M', q, r', x⟩
  | panic ch => exact ⟨s', F', M', q, r', x⟩
  | outgrown => exact ⟨s', F', M', q, r', x⟩

theorem SExec.cond {c : Operand} {x y : Code} {s : St} {Q : Exit → St → Prop} (b : Bool) (hc : s.ev c = .d (.lit (.bool b)))
    (ht : b = true → SExec P x s Q) (hf : b = false → SExec P y s Q) : SExec P (.cond c x y) s Q := by
  intro F M w a r
  have hv := r.ev c
  rw [show evO s.get c = s.ev c from rfl, hc] at hv
  exact wp_cond_split hv.lit_inv (fun e => ht e F M w a r) (fun e => hf e F M w a r)

/-- A state that says less. -/
def EntV (x y : V) : Prop := ∀ F M v, Rep F M v x → Rep F M v y
theorem EntV.refl (x : V) : EntV x x := fun _ _ _ h => h
theorem EntV.any (x : V) : EntV x .any := fun _ _ v _ => .any v

structure St.sub (s s' : St) : Prop where
  n : s.n = s'.n
  hp : s.hp = s'.hp
  get : ∀ t, EntV (s.get t) (s'.get t)

theorem St.sub.refl (s : St) : s.sub s := ⟨rfl, rfl, fun _ => .refl _⟩

theorem RelT.sub {F : Mem} {M : Pls} {a : Act} {w : World} {s s' : St} (h : RelSt F M a w s) (k : s.sub s') : RelSt F M a w s' :=
  ⟨h.defers, h.size.trans k.n, k.hp ▸ h.inv, fun t => k.get t F M _ (h.tmps t)⟩

theorem SExec.sub {c : Code} {s s' : St} {Q : Exit → St → Prop} (k : s.sub s') (h : SExec P c s' Q) : SExec P c s Q :=
  fun F M w a r => h F M w a (r.sub k)

inductive SubL (s : St) : List (Nat × V) → Prop where
  | nil : SubL s []
  | cons {t : Nat} {y : V} {l : List (Nat × V)} (h : EntV (s.get t) y) (k : SubL s l) : SubL s ((t, y) :: l)

theorem SubL.get {s : St} {l : List (Nat × V)} (h : SubL s l) (t : Nat) : EntV (s.get t) (getT t l) := by
  induction h with
  | nil => exact .any _
  | cons h k ih =>
    simp only [getT]
    split
    · rename_i e; subst e; exact h
    · exact ih

theorem St.sub_of {s s' : St} (hn : s.n = s'.n) (hh : s.hp = s'.hp) (h : SubL s s'.tm) : s.sub s' := ⟨hn, hh, h.get⟩

/-- The loop: a family of conditions, each round goes to one of a lesser measure. -/
theorem SExec.loop {ι : Type} {c : Code} {s : St} {Q : Exit → St → Prop} (I : ι → St → Prop) (μ : ι → Nat) (i : ι) (h0 : I i s)
    (hr : ∀ i s, I i s → SExec P c s (thenS (fun s' => ∃ j, μ j < μ i ∧ I j s') Q)) : SExec P (.loop c) s Q := by
  classical
  intro F0 M0 w0 a0 r0
  let T : Act → World → Nat → Prop := fun a w n => ∃ i s F M, μ i = n ∧ I i s ∧ RelSt F M a w s ∧ Ext F0 M0 w0 F M w
  refine wp_loop (fun a w => ∃ n, T a w n) (fun a w => least (T a w)) ⟨_, i, s, F0, M0, rfl, h0, r0, .refl _ _ _⟩ ?_
  intro a w hT
  obtain ⟨i, s, F, M, hm, hI, r, x⟩ := least_spec hT
  refine wp_mono (hr i s hI F M w a r) ?_
  rintro e a' w' ⟨s', F', M', q, r', x'⟩
  cases e with
  | normal =>
    obtain ⟨j, hj, hI'⟩ := q
    have hT' : T a' w' (μ j) := ⟨j, s', F', M', rfl, hI', r', x.trans x'⟩
    refine ⟨⟨_, hT'⟩, ?_⟩
    rw [← hm]
    exact Nat.lt_of_le_of_lt (least_le hT') hj
  | exit id => exact ⟨s', F', M', q, r', x.trans x'⟩
  | goto l => exact ⟨s', F', M', q, r', x.trans x'⟩
  | ret => exact ⟨s', F', M', q, r', x.trans x'⟩
  | panic ch => exact ⟨s', F', M', q, r', x.trans x'⟩
  | outgrown => exact ⟨s', F', M', q, r', x.trans x'⟩

/-- The loop by a counter-like family of states. -/
theorem SExec.loop_fam {ι : Type} {c : Code} {s : St} {Q : Exit → St → Prop} (σ : ι → St) (μ : ι → Nat) (i : ι) (h0 : s.sub (σ i))
    (hr : ∀ i, SExec P c (σ i) (thenS (fun s' => ∃ j, μ j < μ i ∧ s'.sub (σ j)) Q)) : SExec P (.loop c) s Q :=
  SExec.loop (fun i s => s.sub (σ i)) μ i h0 fun i s h => .sub h (hr i)
end
end Go.Ab
