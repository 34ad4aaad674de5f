import Derived.WalkKit
import Derived.Below
import Derived.Orders
import Derived.Laws.AppendOwn
import Derived.Laws.Tables
import Derived.Laws.Strings
import Derived.Laws.CopyRow
set_option linter.unusedVariables false
set_option linter.unusedSimpArgs false
namespace Go.Ab

/-- A cell read as data: a value as it stands, or a slice by what it holds (rows of cells). -/
inductive D where
  | lit (v : Value)
  | sl (rows : List (List D))

instance : Inhabited D := ⟨.lit undef⟩

/-- The cells that no longer change. -/
abbrev Mem := Addr → Option Value

theorem add_add (a : Addr) (i j : Nat) : (a.add i).add j = a.add (i + j) := by
  unfold Addr.add
  by_cases hi : i = 0
  · subst hi; simp
  · by_cases hj : j = 0
    · subst hj; simp
    · rw [if_neg hi, if_neg hj, if_neg (by omega)]; simp; omega

@[simp] theorem add_zero (a : Addr) : a.add 0 = a := by unfold Addr.add; simp

/-- A value that a walk may know as it stands (strings up to 2^62). -/
def litOk : Value → Bool
  | .string s => decide (s.size ≤ 4611686018427387904)
  | _ => true

/-- How many elements a slice that is read may have. -/
def maxRows : Nat := 140737488355328

inductive RepD (F : Mem) : Value → D → Prop where
  | lit (v : Value) (h : litOk v = true) : RepD F v (.lit v)
  | sl (a : Option Addr) (cap sz : Nat) (rows : List (List D)) (vals : Nat → Value)
      (hrow : ∀ r ∈ rows, r.length = sz) (hlen : rows.length ≤ maxRows) (hcap : rows.length ≤ cap)
      (ha : 0 < rows.length * sz → ∃ ad, a = some ad ∧ ∀ k, k < rows.length * sz → F (ad.add k) = some (vals k))
      (hr : ∀ i j, i < rows.length → j < sz → RepD F (vals (i * sz + j)) ((rows.getD i []).getD j default)) :
      RepD F (.slice a rows.length cap) (.sl rows)

def Mem.le (F F' : Mem) : Prop := ∀ a v, F a = some v → F' a = some v
theorem Mem.le.refl (F : Mem) : F.le F := fun _ _ h => h
theorem Mem.le.trans {F F' F'' : Mem} (h : F.le F') (k : F'.le F'') : F.le F'' := fun a v e => k a v (h a v e)

theorem RepD.mono {F F' : Mem} (h : F.le F') {v : Value} {x : D} (r : RepD F v x) : RepD F' v x := by
  induction r with
  | lit v h => exact .lit v h
  | sl a cap sz rows vals hrow hlen hcap ha hr ih =>
    exact .sl a cap sz rows vals hrow hlen hcap (fun h0 => let ⟨ad, e, hf⟩ := ha h0; ⟨ad, e, fun k hk => h _ _ (hf k hk)⟩) ih

/-- Values: data, and what is the call's own. -/
inductive V where
  | d (x : D)
  | gs (t : Nat) (rows : List (List D))
  | bx (id off : Nat)
  | rp (cells : List D)
  | xs (rows : List (List D))
  | hs (id off len : Nat)
  | agg (cells : List V)
  | fn (f : Fn) (first captured : List V)
  | tup (vs : List V)
  | any

instance : Inhabited V := ⟨.any⟩

/-- Where a thing of the call's own lies. -/
inductive Pl where
  | row (blk : Nat)
  | tok (hdr : Value) (n : Nat)
  | hole

def Pl.blk : Pl → Option Nat
  | .row b => some b
  | .tok (.slice (some a) _ _) _ => some a.block
  | .tok _ _ => none
  | .hole => none

def Pl.le : Pl → Pl → Prop
  | .hole, _ => True
  | .row b, .row b' => b = b'
  | .tok h n, .tok h' n' => (h = h' ∧ n = n') ∨ n < n'
  | _, _ => False

theorem Pl.le_refl (p : Pl) : p.le p := by cases p <;> simp [Pl.le]
theorem Pl.le_trans {p q r : Pl} (h : p.le q) (k : q.le r) : p.le r := by
  cases p <;> cases q <;> cases r <;> simp only [Pl.le] at * <;> first | (exact h.trans k) | (rcases h with ⟨rfl, rfl⟩ | h <;> rcases k with ⟨rfl, rfl⟩ | k <;> first | exact .inl ⟨rfl, rfl⟩ | exact .inr (by omega)) | exact h.elim | exact k.elim | trivial

abbrev Pls := List Pl
def Pls.le (M M' : Pls) : Prop := ∀ (i : Nat) (p : Pl), M[i]? = some p → ∃ p' : Pl, M'[i]? = some p' ∧ p.le p'
theorem Pls.le.refl (M : Pls) : Pls.le M M := fun i p h => ⟨p, h, p.le_refl⟩
theorem Pls.le.trans {M M' M'' : Pls} (h : Pls.le M M') (k : Pls.le M' M'') : Pls.le M M'' := fun i p e =>
  let ⟨p', e', l⟩ := h i p e; let ⟨p'', e'', l'⟩ := k i p' e'; ⟨p'', e'', Pl.le_trans l l'⟩
theorem Pls.le.append (M N : Pls) : Pls.le M (M ++ N) := fun i p h => ⟨p, by
  rw [List.getElem?_append_left (List.getElem?_eq_some_iff.1 h).1]; exact h, p.le_refl⟩

inductive Rep (F : Mem) (M : Pls) : Value → V → Prop where
  | any (v : Value) : Rep F M v .any
  | d {v : Value} {x : D} (h : RepD F v x) : Rep F M v (.d x)
  | gs {v : Value} {t n : Nat} {rows : List (List D)} {hdr : Value} (h : RepD F v (.sl rows)) (ht : M[t]? = some (.tok hdr n))
      (hle : rows.length ≤ n) (hv : rows.length = n → v = hdr) : Rep F M v (.gs t rows)
  | bx {id blk : Nat} (off : Nat) (h : M[id]? = some (.row blk)) : Rep F M (.pointer (some ⟨blk, off, none⟩)) (.bx id off)
  | rp (a : Addr) (cells : List D) (vals : Nat → Value) (hf : ∀ j, j < cells.length → F (a.add j) = some (vals j))
      (hr : ∀ j, j < cells.length → RepD F (vals j) (cells.getD j default)) : Rep F M (.pointer (some a)) (.rp cells)
  | xs {a : Option Addr} {n : Nat} {rows : List (List D)} (h : RepD F (.slice a n n) (.sl rows)) : Rep F M (.slice a n n) (.xs rows)
  | hs {id blk : Nat} (off len cap : Nat) (h : M[id]? = some (.row blk)) (hl : len ≤ maxLen) : Rep F M (.slice (some ⟨blk, off, none⟩) len cap) (.hs id off len)
  | agg (cs : Array Value) (cells : List V) (hs : cs.size = cells.length) (hr : ∀ j, j < cells.length → Rep F M (cs.getD j undef) (cells.getD j .any)) : Rep F M (.agg cs) (.agg cells)
  | fn (f : Fn) (a c : Array Value) (first captured : List V) (ha : a.size = first.length) (hc : c.size = captured.length)
      (hra : ∀ j, j < first.length → Rep F M (a.getD j undef) (first.getD j .any)) (hrc : ∀ j, j < captured.length → Rep F M (c.getD j undef) (captured.getD j .any)) : Rep F M (.func f a c) (.fn f first captured)
  | tup (cs : Array Value) (cells : List V) (hs : cs.size = cells.length) (hr : ∀ j, j < cells.length → Rep F M (cs.getD j undef) (cells.getD j .any)) : Rep F M (.tuple cs) (.tup cells)

theorem Rep.mono {F F' : Mem} {M M' : Pls} (h : F.le F') (k : Pls.le M M') {v : Value} {x : V} (r : Rep F M v x) : Rep F' M' v x := by
  induction r with
  | any v => exact .any v
  | d h0 => exact .d (h0.mono h)
  | gs h0 ht hle hv =>
    obtain ⟨p, hp, hl⟩ := k _ _ ht
    cases p with
    | row b => simp [Pl.le] at hl
    | hole => simp [Pl.le] at hl
    | tok h' n' =>
      rcases hl with ⟨rfl, rfl⟩ | hl
      · exact .gs (h0.mono h) hp hle hv
      · exact .gs (h0.mono h) hp (by omega) (fun e => by omega)
  | bx off h0 =>
    obtain ⟨p, hp, hl⟩ := k _ _ h0
    cases p with
    | row b => simp [Pl.le] at hl; subst hl; exact .bx off hp
    | tok h' n' => simp [Pl.le] at hl
    | hole => simp [Pl.le] at hl
  | rp a cells vals hf hr => exact .rp a cells vals (fun j hj => h _ _ (hf j hj)) (fun j hj => (hr j hj).mono h)
  | xs h0 => exact .xs (h0.mono h)
  | hs off len cap h0 hl' =>
    obtain ⟨p, hp, hl⟩ := k _ _ h0
    cases p with
    | row b => simp [Pl.le] at hl; subst hl; exact .hs off len cap hp hl'
    | tok h' n' => simp [Pl.le] at hl
    | hole => simp [Pl.le] at hl
  | agg cs cells hs hr ih => exact .agg cs cells hs ih
  | fn f a c first captured ha hc hra hrc iha ihc => exact .fn f a c first captured ha hc iha ihc
  | tup cs cells hs hr ih => exact .tup cs cells hs ih

/-! ### The call's own things -/
inductive O where
  | row (ty : TypeId) (cells : List V)
  | tok (ty sz n : Nat)
  | dead

inductive ObjRep (F : Mem) (M : Pls) (w : World) : O → Pl → Prop where
  | row (ty : TypeId) (cells : List V) (blk : Nat) (c : Array Value) (hc : w.heap[blk]? = some (.cells c ty (0, 0))) (hs : c.size = cells.length)
      (hr : ∀ j, j < cells.length → Rep F M (c.getD j undef) (cells.getD j .any)) (h1 : ∀ j, j < cells.length → (c.getD j undef).oneCell' = true)
      (hF : ∀ o s, F ⟨blk, o, s⟩ = none) : ObjRep F M w (.row ty cells) (.row blk)
  | nil (ty sz : Nat) : ObjRep F M w (.tok ty sz 0) (.tok (.slice none 0 0) 0)
  | tok (ty sz n blk cap : Nat) (c : Array Value) (hc : w.heap[blk]? = some (.cells c ty (0, 0))) (hs : c.size = cap * sz) (hn : n ≤ cap) (hcap : cap ≤ maxLen)
      (hpre : ∀ k, k < n * sz → F ⟨blk, k, none⟩ = some (c.getD k undef))
      (hF : ∀ o s, n * sz ≤ o → F ⟨blk, o, s⟩ = none) : ObjRep F M w (.tok ty sz n) (.tok (.slice (some ⟨blk, 0, none⟩) n cap) n)
  | dead (p : Pl) : ObjRep F M w .dead p

def O.live : O → Bool
  | .dead => false
  | _ => true

/-- What lies in the program's own variables and never changes (a seat whose program has tables says which). -/
def groundMem : Mem := fun _ => none

structure Inv (F : Mem) (M : Pls) (w : World) (H : List O) : Prop where
  cells : ∀ a v, F a = some v → w.cell? a = some v
  len : M.length = H.length
  objs : ∀ (i : Nat) (o : O) (p : Pl), H[i]? = some o → M[i]? = some p → ObjRep F M w o p
  sep : ∀ (i j : Nat) (o o' : O) (p p' : Pl) (b : Nat), i ≠ j → H[i]? = some o → H[j]? = some o' → o.live = true → o'.live = true → M[i]? = some p → M[j]? = some p' → p.blk = some b → p'.blk ≠ some b
  inb : ∀ (i : Nat) (p : Pl) (b : Nat), M[i]? = some p → p.blk = some b → b < w.heap.size
  gnd : groundMem.le F

structure Ext (F : Mem) (M : Pls) (w : World) (F' : Mem) (M' : Pls) (w' : World) : Prop where
  fle : F.le F'
  mle : Pls.le M M'
  size : w.heap.size ≤ w'.heap.size
  os : w'.os = w.os
  tape : w'.tape = w.tape
  output : w'.output = w.output
  old : ∀ k, k < w.heap.size → (∀ (i : Nat) (p : Pl), M[i]? = some p → p.blk ≠ some k) → w'.heap[k]? = w.heap[k]?
  newF : ∀ a, F a = none → F' a ≠ none → w.heap.size ≤ a.block ∨ ∃ (i : Nat) (p : Pl), M[i]? = some p ∧ p.blk = some a.block
  newM : ∀ (i : Nat) (p : Pl) (b : Nat), M'[i]? = some p → p.blk = some b → w.heap.size ≤ b ∨ ∃ (j : Nat) (q : Pl), M[j]? = some q ∧ q.blk = some b

theorem Ext.refl (F : Mem) (M : Pls) (w : World) : Ext F M w F M w :=
  ⟨.refl _, .refl _, Nat.le_refl _, rfl, rfl, rfl, fun _ _ _ => rfl, fun a h h' => absurd h h', fun i p b h hb => .inr ⟨i, p, h, hb⟩⟩

theorem Ext.trans {F F' F'' : Mem} {M M' M'' : Pls} {w w' w'' : World} (h : Ext F M w F' M' w') (k : Ext F' M' w' F'' M'' w'') : Ext F M w F'' M'' w'' := by
  refine ⟨h.fle.trans k.fle, h.mle.trans k.mle, Nat.le_trans h.size k.size, k.os.trans h.os, k.tape.trans h.tape, k.output.trans h.output, ?_, ?_, ?_⟩
  · intro b hb hm
    rw [k.old b (Nat.lt_of_lt_of_le hb h.size) ?_, h.old b hb hm]
    intro i p hp e
    rcases h.newM i p b hp e with h1 | ⟨j, q, hq, e'⟩
    · omega
    · exact hm j q hq e'
  · intro a h0 h2
    by_cases h1 : F' a = none
    · rcases k.newF a h1 h2 with h3 | ⟨i, p, hp, e⟩
      · exact .inl (Nat.le_trans h.size h3)
      · exact h.newM i p _ hp e
    · exact h.newF a h0 h1
  · intro i p b hp e
    rcases k.newM i p b hp e with h1 | ⟨j, q, hq, e'⟩
    · exact .inl (Nat.le_trans h.size h1)
    · exact h.newM j q b hq e'

end Go.Ab

set_option linter.unusedVariables false
set_option linter.unusedSimpArgs false
namespace Go.Ab

theorem Rep.lit_inv {F : Mem} {M : Pls} {v u : Value} (h : Rep F M v (.d (.lit u))) : v = u := by
  cases h with
  | d h => cases h; rfl

theorem Rep.lit {F : Mem} {M : Pls} (u : Value) (h : litOk u = true := by rfl) : Rep F M u (.d (.lit u)) := .d (.lit u h)

/-! ### States -/
def getT (i : Nat) : List (Nat × V) → V
  | [] => .any
  | p :: l => if i = p.1 then p.2 else getT i l

structure St where
  n : Nat
  tm : List (Nat × V)
  hp : List O

def St.get (s : St) (i : Nat) : V := getT i s.tm
def St.put (s : St) (d : Option Tmp) (v : V) : St :=
  match d with
  | some d => if d < s.n then { s with tm := (d, v) :: s.tm } else s
  | none => s

def litC (v : Value) : V := if litOk v = true then .d (.lit v) else .any
theorem rep_litC (F : Mem) (M : Pls) (v : Value) : Rep F M v (litC v) := by
  unfold litC
  split
  · rename_i h; exact .lit v h
  · exact .any v

def ofC : Value → V
  | .agg cs => .agg (cs.toList.map litC)
  | v => litC v

def evO (g : Nat → V) : Operand → V
  | .tmp t => g t
  | .const v => ofC v
  | .global b => .d (.lit (.pointer (some ⟨b, 0, none⟩)))
  | .func f => .fn (.func f) [] []

def St.ev (s : St) (x : Operand) : V := evO s.get x

theorem rep_ofC (F : Mem) (M : Pls) (v : Value) : Rep F M v (ofC v) := by
  cases v with
  | agg cs =>
    refine .agg cs _ (by simp) fun j hj => ?_
    simp at hj
    simp [List.getD_eq_getElem?_getD, hj, Array.getD_eq_getD_getElem?]
    exact rep_litC _ _ _
  | _ => exact rep_litC _ _ _

/-- The frame and the world fit the state. -/
structure RelT (F : Mem) (M : Pls) (a : Act) (w : World) (g : Nat → V) (n : Nat) (H : List O) : Prop where
  defers : a.defers = []
  size : a.tmps.size = n
  inv : Inv F M w H
  tmps : ∀ t, Rep F M (a.tmps.getD t undef) (g t)

abbrev RelSt (F : Mem) (M : Pls) (a : Act) (w : World) (s : St) : Prop := RelT F M a w s.get s.n s.hp

theorem RelT.ev {F : Mem} {M : Pls} {a : Act} {w : World} {g : Nat → V} {n : Nat} {H : List O} (h : RelT F M a w g n H) (x : Operand) : Rep F M (a.eval x) (evO g x) := by
  cases x with
  | tmp t => exact h.tmps t
  | const v => exact rep_ofC F M v
  | global b => exact .lit _
  | func f => exact .fn _ #[] #[] [] [] rfl rfl (fun j hj => by simp at hj) (fun j hj => by simp at hj)

def putG (g : Nat → V) (n : Nat) (d : Option Tmp) (v : V) : Nat → V :=
  match d with
  | some d => if d < n then (fun t => if t = d then v else g t) else g
  | none => g

theorem St.get_put (s : St) (d : Option Tmp) (v : V) : (s.put d v).get = putG s.get s.n d v := by
  cases d with
  | none => rfl
  | some d =>
    unfold St.put putG
    dsimp only
    split
    · funext t; simp only [St.get, getT]
    · rfl
theorem St.n_put (s : St) (d : Option Tmp) (v : V) : (s.put d v).n = s.n := by
  cases d with
  | none => rfl
  | some d => unfold St.put; dsimp only; split <;> rfl
theorem St.hp_put (s : St) (d : Option Tmp) (v : V) : (s.put d v).hp = s.hp := by
  cases d with
  | none => rfl
  | some d => unfold St.put; dsimp only; split <;> rfl

theorem RelT.put {F F' : Mem} {M M' : Pls} {a : Act} {w w' : World} {g : Nat → V} {n : Nat} {H H' : List O} (h : RelT F M a w g n H)
    (hF : F.le F') (hM : Pls.le M M') (hi : Inv F' M' w' H') (d : Option Tmp) {v : Value} {x : V} (hv : Rep F' M' v x) : RelT F' M' (a.put d v) w' (putG g n d x) n H' := by
  cases d with
  | none => exact ⟨h.defers, h.size, hi, fun t => (h.tmps t).mono hF hM⟩
  | some d =>
    refine ⟨h.defers, by simp [Act.put, h.size], hi, fun t => ?_⟩
    simp only [Act.put, putG]
    by_cases hd : d < n
    · rw [if_pos hd]
      by_cases ht : t = d
      · subst ht
        rw [if_pos rfl]
        have : t < a.tmps.size := by rw [h.size]; exact hd
        simp [Array.getD_eq_getD_getElem?, this]
        exact hv
      · rw [if_neg ht]
        have : (a.tmps.setIfInBounds d v).getD t undef = a.tmps.getD t undef := by
          simp [Array.getD_eq_getD_getElem?, Array.getElem?_setIfInBounds, Ne.symm ht]
        rw [this]
        exact (h.tmps t).mono hF hM
    · rw [if_neg hd]
      have : a.tmps.setIfInBounds d v = a.tmps := by
        have hs := h.size
        apply Array.ext'
        simp
        rw [List.set_eq_of_length_le]
        simp only [Array.length_toList]
        exact hs ▸ Nat.le_of_not_lt hd
      rw [this]
      exact (h.tmps t).mono hF hM

theorem least_exists (p : Nat → Prop) (h : ∃ n, p n) : ∃ n, p n ∧ ∀ m, p m → n ≤ m := by
  obtain ⟨n, hn⟩ := h
  induction n using Nat.strongRecOn with
  | _ n ih =>
    by_cases h : ∃ m, m < n ∧ p m
    · obtain ⟨m, hm, hp⟩ := h
      exact ih m hm hp
    · refine ⟨n, hn, fun m hm => ?_⟩
      rcases Nat.lt_or_ge m n with h1 | h1
      · exact absurd ⟨m, h1, hm⟩ h
      · exact h1
open Classical in
noncomputable def least (p : Nat → Prop) : Nat := if h : ∃ n, p n then Classical.choose (least_exists p h) else 0
theorem least_spec {p : Nat → Prop} (h : ∃ n, p n) : p (least p) := by
  unfold least; rw [dif_pos h]; exact (Classical.choose_spec (least_exists p h)).1
theorem least_le {p : Nat → Prop} {m : Nat} (hm : p m) : least p ≤ m := by
  unfold least; rw [dif_pos ⟨m, hm⟩]; exact (Classical.choose_spec (least_exists p ⟨m, hm⟩)).2 m hm

/-! ### Code over states -/
section
variable {P : Program}

def SExec (P : Program) (c : Code) (s : St) (Q : Exit → St → Prop) : Prop :=
  ∀ F M w a, RelSt F M a w s → c.wp P (fun e a' w' => ∃ s' F' M', Q e s' ∧ RelSt F' M' a' w' s' ∧ Ext F M w F' M' w') a w

def thenS (K : St → Prop) (Q : Exit → St → Prop) : Exit → St → Prop
  | .normal, s => K s
  | e, s => Q e s

def blockS (id : Nat) (Q : Exit → St → Prop) : Exit → St → Prop
  | .exit id', s => if id' = id then Q .normal s else Q (.exit id') s
  | e, s => Q e s

theorem SExec.mono {c : Code} {s : St} {Q Q' : Exit → St → Prop} (h : SExec P c s Q) (k : ∀ e s, Q e s → Q' e s) : SExec P c s Q' :=
  fun F M w a r => wp_mono (h F M w a r) fun e a' w' ⟨s', F', M', q, r', x⟩ => ⟨s', F', M', k _ _ q, r', x⟩

theorem SExec.skip {s : St} {Q : Exit → St → Prop} (h : Q .normal s) : SExec P .skip s Q :=
  fun F M w a r => wp_skip ⟨s, F, M, h, r, .refl _ _ _⟩

theorem SExec.label {l : Nat} {s : St} {Q : Exit → St → Prop} (h : Q .normal s) : SExec P (.label l) s Q :=
  fun F M w a r => wp_label ⟨s, F, M, h, r, .refl _ _ _⟩

theorem SExec.exit {id : Nat} {s : St} {Q : Exit → St → Prop} (h : Q (.exit id) s) : SExec P (.exit id) s Q :=
  fun F M w a r => wp_exit ⟨s, F, M, h, r, .refl _ _ _⟩

theorem SExec.goto {l : Nat} {s : St} {Q : Exit → St → Prop} (h : Q (.goto l) s) : SExec P (.goto l) s Q :=
  fun F M w a r => wp_goto ⟨s, F, M, h, r, .refl _ _ _⟩

theorem SExec.ret {s : St} {Q : Exit → St → Prop} (h : Q .ret s) : SExec P .ret s Q :=
  fun F M w a r => wp_ret ⟨s, F, M, h, r, .refl _ _ _⟩

theorem SExec.seq {x y : Code} {s : St} {Q : Exit → St → Prop} (h : SExec P x s (thenS (fun s' => SExec P y s' Q) Q)) : SExec P (.seq x y) s Q := by
  intro F M w a r
  refine wp_seq (wp_mono (h F M w a r) ?_)
  rintro e a' w' ⟨s', F', M', q, r', x⟩
  cases e with
  | normal =>
    exact wp_mono (q F' M' w' a' r') fun e a'' w'' ⟨s'', F'', M'', q', r'', x'⟩ => ⟨s'', F'', M'', q', r'', x.trans x'⟩
  | exit id => exact ⟨s', F', M', q, r', x⟩
  | goto l => exact ⟨s', F', M', q, r', x⟩
  | ret => exact ⟨s', F', M', q, r', x⟩
  | panic ch => exact ⟨s', F', M', q, r', x⟩
  | outgrown => exact ⟨s', F', M', q, r', x⟩

theorem SExec.block {id : Nat} {c : Code} {s : St} {Q : Exit → St → Prop} (h : SExec P c s (blockS id Q)) : SExec P (.block id c) s Q := by
  intro F M w a r
  refine wp_block (wp_mono (h F M w a r) ?_)
  rintro e a' w' ⟨s', F', M', q, r', x⟩
  cases e with
  | exit id' =>
    simp only [Exit.inBlock, blockS] at *
    split at q <;> rename_i hid
    · rw [if_pos hid]; exact ⟨s', F', M', q, r', x⟩
    · rw [if_neg hid]; exact ⟨s', F', M', q, r', x⟩
  | normal => exact ⟨s', F', M', q, r', x⟩
  | goto l => exact ⟨s', F', M', q, r', x⟩
  | ret => exact ⟨s', F', M', q, r', x⟩
  | panic ch => exact ⟨s', F', M', q, r', x⟩
  | outgrown => exact ⟨s', F', M', q, r', x⟩

theorem SExec.cond {c : Operand} {x y : Code} {s : St} {Q : Exit → St → Prop} (b : Bool) (hc : s.ev c = .d (.lit (.bool b)))
    (ht : b = true → SExec P x s Q) (hf : b = false → SExec P y s Q) : SExec P (.cond c x y) s Q := by
  intro F M w a r
  have hv := r.ev c
  rw [show evO s.get c = s.ev c from rfl, hc] at hv
  exact wp_cond_split hv.lit_inv (fun e => ht e F M w a r) (fun e => hf e F M w a r)

/-- A state that says less. -/
def EntV (x y : V) : Prop := ∀ F M v, Rep F M v x → Rep F M v y
theorem EntV.refl (x : V) : EntV x x := fun _ _ _ h => h
theorem EntV.any (x : V) : EntV x .any := fun _ _ v _ => .any v

structure St.sub (s s' : St) : Prop where
  n : s.n = s'.n
  hp : s.hp = s'.hp
  get : ∀ t, EntV (s.get t) (s'.get t)

theorem St.sub.refl (s : St) : s.sub s := ⟨rfl, rfl, fun _ => .refl _⟩

theorem RelT.sub {F : Mem} {M : Pls} {a : Act} {w : World} {s s' : St} (h : RelSt F M a w s) (k : s.sub s') : RelSt F M a w s' :=
  ⟨h.defers, h.size.trans k.n, k.hp ▸ h.inv, fun t => k.get t F M _ (h.tmps t)⟩

theorem SExec.sub {c : Code} {s s' : St} {Q : Exit → St → Prop} (k : s.sub s') (h : SExec P c s' Q) : SExec P c s Q :=
  fun F M w a r => h F M w a (r.sub k)

inductive SubL (s : St) : List (Nat × V) → Prop where
  | nil : SubL s []
  | cons {t : Nat} {y : V} {l : List (Nat × V)} (h : EntV (s.get t) y) (k : SubL s l) : SubL s ((t, y) :: l)

theorem SubL.get {s : St} {l : List (Nat × V)} (h : SubL s l) (t : Nat) : EntV (s.get t) (getT t l) := by
  induction h with
  | nil => exact .any _
  | cons h k ih =>
    simp only [getT]
    split
    · rename_i e; subst e; exact h
    · exact ih

theorem St.sub_of {s s' : St} (hn : s.n = s'.n) (hh : s.hp = s'.hp) (h : SubL s s'.tm) : s.sub s' := ⟨hn, hh, h.get⟩

/-- The loop: a family of conditions, each round goes to one of a lesser measure. -/
theorem SExec.loop {ι : Type} {c : Code} {s : St} {Q : Exit → St → Prop} (I : ι → St → Prop) (μ : ι → Nat) (i : ι) (h0 : I i s)
    (hr : ∀ i s, I i s → SExec P c s (thenS (fun s' => ∃ j, μ j < μ i ∧ I j s') Q)) : SExec P (.loop c) s Q := by
  classical
  intro F0 M0 w0 a0 r0
  let T : Act → World → Nat → Prop := fun a w n => ∃ i s F M, μ i = n ∧ I i s ∧ RelSt F M a w s ∧ Ext F0 M0 w0 F M w
  refine wp_loop (fun a w => ∃ n, T a w n) (fun a w => least (T a w)) ⟨_, i, s, F0, M0, rfl, h0, r0, .refl _ _ _⟩ ?_
  intro a w hT
  obtain ⟨i, s, F, M, hm, hI, r, x⟩ := least_spec hT
  refine wp_mono (hr i s hI F M w a r) ?_
  rintro e a' w' ⟨s', F', M', q, r', x'⟩
  cases e with
  | normal =>
    obtain ⟨j, hj, hI'⟩ := q
    have hT' : T a' w' (μ j) := ⟨j, s', F', M', rfl, hI', r', x.trans x'⟩
    refine ⟨⟨_, hT'⟩, ?_⟩
    rw [← hm]
    exact Nat.lt_of_le_of_lt (least_le hT') hj
  | exit id => exact ⟨s', F', M', q, r', x.trans x'⟩
  | goto l => exact ⟨s', F', M', q, r', x.trans x'⟩
  | ret => exact ⟨s', F', M', q, r', x.trans x'⟩
  | panic ch => exact ⟨s', F', M', q, r', x.trans x'⟩
  | outgrown => exact ⟨s', F', M', q, r', x.trans x'⟩

/-- The loop by a counter-like family of states. -/
theorem SExec.loop_fam {ι : Type} {c : Code} {s : St} {Q : Exit → St → Prop} (σ : ι → St) (μ : ι → Nat) (i : ι) (h0 : s.sub (σ i))
    (hr : ∀ i, SExec P c (σ i) (thenS (fun s' => ∃ j, μ j < μ i ∧ s'.sub (σ j)) Q)) : SExec P (.loop c) s Q :=
  SExec.loop (fun i s => s.sub (σ i)) μ i h0 fun i s h => .sub h (hr i)
end
end Go.Ab

set_option linter.unusedVariables false
set_option linter.unusedSimpArgs false
namespace Go.Ab
section
variable {P : Program}

/-- One operation that is no call of a Go function. -/
def Yl (P : Program) (o : Oper) (g : Nat → V) (H : List O) (r : V) (H' : List O) : Prop :=
  ∀ F M w (ρ : Operand → Value), Inv F M w H → (∀ x, Rep F M (ρ x) (evO g x)) → ∃ v w' F' M',
    ((execOp ρ o).run P w = .ok (.value v) w' ∨ ((execOp ρ o).run P w = .ok .skip w' ∧ v = undef)) ∧ Rep F' M' v r ∧ Inv F' M' w' H' ∧ Ext F M w F' M' w'

/-- One that leaves the world alone. -/
def Yp (P : Program) (o : Oper) (g : Nat → V) (H : List O) (r : V) : Prop :=
  ∀ F M w (ρ : Operand → Value), Inv F M w H → (∀ x, Rep F M (ρ x) (evO g x)) → ∃ v, (execOp ρ o).run P w = .ok (.value v) w ∧ Rep F M v r

theorem Yp.yl {o : Oper} {g : Nat → V} {H : List O} {r : V} (h : Yp P o g H r) : Yl P o g H r H := fun F M w ρ hi hr =>
  let ⟨v, e, hv⟩ := h F M w ρ hi hr
  ⟨v, w, F, M, .inl e, hv, hi, .refl _ _ _⟩

def SOp (P : Program) (o : Oper) (s : St) (K : St → Prop) : Prop :=
  ∀ F M w a, RelSt F M a w s → ∀ (next : Act → World → Prop) (Q : Exit → Act → World → Prop),
    (∀ s' F' M' a' w', K s' → RelSt F' M' a' w' s' → Ext F M w F' M' w' → next a' w') → o.wp P a w next Q

def St.heap (s : St) (H : List O) : St := { s with hp := H }

theorem SOp.of_yl {o : Oper} {s : St} {K : St → Prop} {r : V} {H' : List O} (h : Yl P o s.get s.hp r H') (k : K ((s.heap H').put o.dst r)) : SOp P o s K := by
  intro F M w a rel next Q hn
  obtain ⟨v, w', F', M', hrun, hv, hi, x⟩ := h F M w a.eval rel.inv rel.ev
  have hrel : RelSt F' M' (a.put o.dst v) w' ((s.heap H').put o.dst r) := by
    have := RelT.put rel x.fle x.mle hi o.dst hv
    unfold RelSt
    rw [St.get_put, St.n_put, St.hp_put]
    exact this
  unfold Oper.wp
  rcases hrun with hrun | ⟨hrun, rfl⟩
  · rw [hrun]; exact hn _ _ _ _ _ k hrel x
  · rw [hrun]; exact hn _ _ _ _ _ k hrel x

theorem SOp.of_yp {o : Oper} {s : St} {K : St → Prop} {r : V} (h : Yp P o s.get s.hp r) (k : K (s.put o.dst r)) : SOp P o s K :=
  SOp.of_yl h.yl k

theorem SOp.mono {o : Oper} {s : St} {K K' : St → Prop} (h : SOp P o s K) (k : ∀ s, K s → K' s) : SOp P o s K' :=
  fun F M w a rel next Q hn => h F M w a rel next Q fun s' F' M' a' w' hk => hn s' F' M' a' w' (k _ hk)

def SOps (P : Program) (ops : Array Oper) (l : List Oper) (s : St) (K : St → Prop) : Prop :=
  ∀ F M w a, RelSt F M a w s → ∀ (Q : Exit → Act → World → Prop),
    (∀ s' F' M' a' w', K s' → RelSt F' M' a' w' s' → Ext F M w F' M' w' → Q .normal a' w') → wpList P ops Q l a w

theorem SOps.nil {ops : Array Oper} {s : St} {K : St → Prop} (h : K s) : SOps P ops [] s K :=
  fun F M w a rel Q hq => hq s F M a w h rel (.refl _ _ _)

theorem SOps.cons {ops : Array Oper} {o : Oper} {l : List Oper} {s : St} {K : St → Prop} (hg : o.guard = none) (h : SOp P o s (fun s' => SOps P ops l s' K)) : SOps P ops (o :: l) s K := by
  intro F M w a rel Q hq
  unfold wpList
  rw [if_pos (by simp [Region.wanted, hg])]
  refine .inl (h F M w a rel _ Q ?_)
  intro s' F' M' a' w' hs' rel' x
  exact hs' F' M' w' a' rel' Q fun s'' F'' M'' a'' w'' hk rel'' x' => hq s'' F'' M'' a'' w'' hk rel'' (x.trans x')

theorem wanted_of {ops : Array Oper} {o : Oper} {s : St} {j t : Nat} {want b : Bool} {F : Mem} {M : Pls} {a : Act} {w : World} (hg : o.guard = some (j, want)) (ht : (ops[j]?).bind (·.dst) = some t)
    (hb : s.get t = .d (.lit (.bool b))) (rel : RelSt F M a w s) : Region.wanted o (yielded ops a.tmps) = (b == want) := by
  have hv := rel.tmps t
  rw [hb] at hv
  have hv := hv.lit_inv
  have hlt : t < a.tmps.size := by
    rcases Nat.lt_or_ge t a.tmps.size with h | h
    · exact h
    · rw [Array.getD_eq_getD_getElem?, Array.getElem?_eq_none h] at hv; cases hv
  simp [Array.getD_eq_getD_getElem?, hlt] at hv
  simp [Region.wanted, hg, yielded, ht, hlt, hv]

theorem skipped_of {ops : Array Oper} {o : Oper} {s : St} {j t : Nat} {want : Bool} {c : Array Value} {F : Mem} {M : Pls} {a : Act} {w : World} (hg : o.guard = some (j, want)) (ht : (ops[j]?).bind (·.dst) = some t)
    (hb : s.get t = .d (.lit (.tuple c))) (rel : RelSt F M a w s) : Region.wanted o (yielded ops a.tmps) = false := by
  have hv := rel.tmps t
  rw [hb] at hv
  have hv := hv.lit_inv
  by_cases hlt : t < a.tmps.size
  · simp [Array.getD_eq_getD_getElem?, hlt] at hv
    simp [Region.wanted, hg, yielded, ht, hlt, hv]
  · simp [Region.wanted, hg, yielded, ht, hlt]

theorem SOps.cons_skip {ops : Array Oper} {o : Oper} {l : List Oper} {s : St} {K : St → Prop} {j t : Nat} {want : Bool} {c : Array Value} (hg : o.guard = some (j, want)) (ht : (ops[j]?).bind (·.dst) = some t)
    (hb : s.get t = .d (.lit (.tuple c))) (h : SOps P ops l (s.put o.dst (.d (.lit undef))) K) : SOps P ops (o :: l) s K := by
  intro F M w a rel Q hq
  unfold wpList
  rw [if_neg (by rw [skipped_of hg ht hb rel]; simp)]
  have hrel : RelSt F M (a.put o.dst undef) w (s.put o.dst (.d (.lit undef))) := by
    have := RelT.put rel (.refl _) (.refl _) rel.inv o.dst (Rep.lit undef)
    unfold RelSt
    rw [St.get_put, St.n_put, St.hp_put]
    exact this
  exact h F M w _ hrel Q hq

theorem SOps.cons_yes {ops : Array Oper} {o : Oper} {l : List Oper} {s : St} {K : St → Prop} {j t : Nat} {want : Bool} (hg : o.guard = some (j, want)) (ht : (ops[j]?).bind (·.dst) = some t)
    (hb : s.get t = .d (.lit (.bool want))) (h : SOp P o s (fun s' => SOps P ops l s' K)) : SOps P ops (o :: l) s K := by
  intro F M w a rel Q hq
  unfold wpList
  rw [if_pos (by rw [wanted_of hg ht hb rel]; simp)]
  refine .inl (h F M w a rel _ Q ?_)
  intro s' F' M' a' w' hs' rel' x
  exact hs' F' M' w' a' rel' Q fun s'' F'' M'' a'' w'' hk rel'' x' => hq s'' F'' M'' a'' w'' hk rel'' (x.trans x')

theorem SOps.cons_no {ops : Array Oper} {o : Oper} {l : List Oper} {s : St} {K : St → Prop} {j t : Nat} {want : Bool} (hg : o.guard = some (j, want)) (ht : (ops[j]?).bind (·.dst) = some t)
    (hb : s.get t = .d (.lit (.bool (!want)))) (h : SOps P ops l (s.put o.dst (.d (.lit undef))) K) : SOps P ops (o :: l) s K := by
  intro F M w a rel Q hq
  unfold wpList
  rw [if_neg (by rw [wanted_of hg ht hb rel]; cases want <;> simp)]
  have hrel : RelSt F M (a.put o.dst undef) w (s.put o.dst (.d (.lit undef))) := by
    have := RelT.put rel (.refl _) (.refl _) rel.inv o.dst (Rep.lit undef)
    unfold RelSt
    rw [St.get_put, St.n_put, St.hp_put]
    exact this
  exact h F M w _ hrel Q hq

theorem SExec.region {id : Nat} {ops : Array Oper} {s : St} {Q : Exit → St → Prop} (h : SOps P ops ops.toList s (Q .normal)) : SExec P (.region id ops false) s Q := by
  intro F M w a rel
  refine wp_region_list (h F M w a rel _ ?_)
  intro s' F' M' a' w' hk rel' x
  exact ⟨s', F', M', hk, rel', x⟩

/-! ### Calls -/
def Enters (P : Program) (k : FuncId) : Prop := ∀ w args, (callFunc k args).run P w = .ok (.enter k args) w

theorem enters_of {k : FuncId} {fn : Func} {c : Code} (h : P.funcs[k]? = some fn) (hb : fn.body = some c) (hn : (fn.name == "runtime.NumGoroutine") = false) : Enters P k := by
  intro w args
  have hn' : ¬ fn.name = "runtime.NumGoroutine" := by simpa using hn
  simp [callFunc, h, hn', hb]

def Reps (F : Mem) (M : Pls) (vals : List Value) (args : List V) : Prop :=
  vals.length = args.length ∧ ∀ j, j < args.length → Rep F M (vals.getD j undef) (args.getD j .any)

structure SCall (P : Program) (k : FuncId) (args : List V) (H : List O) (Q : V → List O → Prop) : Prop where
  enters : Enters P k
  calls : ∀ F M w vals, Inv F M w H → Reps F M vals args →
    Calls P k vals.toArray w (fun e w' => ∃ v r H' F' M', e = .returned v ∧ Q r H' ∧ Rep F' M' v r ∧ Inv F' M' w' H' ∧ Ext F M w F' M' w')

theorem SCall.mono {k : FuncId} {args : List V} {H : List O} {Q Q' : V → List O → Prop} (h : SCall P k args H Q) (hq : ∀ r H', Q r H' → Q' r H') : SCall P k args H Q' :=
  ⟨h.1, fun F M w vals hi hr => (h.2 F M w vals hi hr).mono fun e w' ⟨v, r, H', F', M', he, q, rest⟩ => ⟨v, r, H', F', M', he, hq _ _ q, rest⟩⟩

theorem reps_append {F : Mem} {M : Pls} {xs ys : List Value} {as bs : List V} (h : Reps F M xs as) (k : Reps F M ys bs) : Reps F M (xs ++ ys) (as ++ bs) := by
  refine ⟨by simp [h.1, k.1], fun j hj => ?_⟩
  simp only [List.length_append] at hj
  by_cases hl : j < as.length
  · have := h.2 j hl
    simp only [List.getD_eq_getElem?_getD] at *
    rwa [List.getElem?_append_left (by rw [h.1]; exact hl), List.getElem?_append_left hl]
  · have := k.2 (j - as.length) (by omega)
    simp only [List.getD_eq_getElem?_getD] at *
    rwa [List.getElem?_append_right (by rw [h.1]; omega), List.getElem?_append_right (by omega), h.1]

theorem SOp.call {o : Oper} {s : St} {K : St → Prop} {f : Operand} {args : Array Operand} {ats : Array TypeId} {k : FuncId} {first captured : List V}
    (ho : o.op = .call { callee := .value f, args := args, argTypes := ats }) (hf : s.ev f = .fn (.func k) first captured)
    (h : SCall P k (first ++ args.toList.map s.ev ++ captured) s.hp (fun r H' => K ((s.heap H').put o.dst r))) : SOp P o s K := by
  intro F M w a rel next Q hn
  have hv := rel.ev f
  rw [show evO s.get f = s.ev f from rfl, hf] at hv
  generalize hfv : a.eval f = fv at hv
  cases hv with
  | fn _ A C _ _ hA hC hrA hrC =>
    have hrun : (execOp a.eval o).run P w = .ok (.enter k (A ++ args.map a.eval ++ C)) w := by
      have := h.1 w (A ++ args.map a.eval ++ C)
      simp [execOp, ho, resolve, hfv, Deferred.ofValue, invoke] at *
      exact this
    unfold Oper.wp
    rw [hrun]
    show Calls P k _ w _
    have hreps : Reps F M (A.toList ++ (args.map a.eval).toList ++ C.toList) (first ++ args.toList.map s.ev ++ captured) := by
      refine reps_append (reps_append ⟨by simpa using hA, fun j hj => ?_⟩ ⟨by simp, fun j hj => ?_⟩) ⟨by simpa using hC, fun j hj => ?_⟩
      · simpa [List.getD_eq_getElem?_getD, Array.getD_eq_getD_getElem?] using hrA j hj
      · simp at hj
        simp [List.getD_eq_getElem?_getD, hj]
        exact rel.ev _
      · simpa [List.getD_eq_getElem?_getD, Array.getD_eq_getD_getElem?] using hrC j hj
    have hc := h.2 F M w _ rel.inv hreps
    have e : (A.toList ++ (args.map a.eval).toList ++ C.toList).toArray = A ++ args.map a.eval ++ C := by
      apply Array.ext'; simp
    rw [e] at hc
    refine hc.mono ?_
    rintro e w' ⟨v, r, H', F', M', rfl, hk, hvr, hi, x⟩
    refine hn _ F' M' _ _ hk ?_ x
    have := RelT.put rel x.fle x.mle hi o.dst hvr
    unfold RelSt
    rw [St.get_put, St.n_put, St.hp_put]
    exact this

def initTm : Nat → List V → List (Nat × V)
  | _, [] => []
  | i, x :: l => (i, x) :: initTm (i + 1) l

def initSt (m : Nat) (args : List V) (H : List O) : St := { n := args.length + (m - args.length), tm := initTm 0 args, hp := H }

theorem getT_init (args : List V) : ∀ i t, getT t (initTm i args) = if i ≤ t then args.getD (t - i) .any else .any := by
  induction args with
  | nil => intro i t; simp [initTm, getT]
  | cons x l ih =>
    intro i t
    simp only [initTm, getT]
    by_cases h : t = i
    · subst h; simp
    · rw [if_neg h, ih]
      by_cases h2 : i ≤ t
      · rw [if_pos h2, if_pos (by omega)]
        obtain ⟨m, hm⟩ : ∃ m, t - i = m + 1 := ⟨t - i - 1, by omega⟩
        rw [hm, show t - (i + 1) = m by omega]; simp
      · rw [if_neg h2, if_neg (by omega)]

def loadA (agg : Bool) (n : Nat) (H : List O) (x : V) : Option V :=
  match x with
  | .bx id off => match H[id]? with
    | some (.row _ cells) => if agg then (if off + n ≤ cells.length then some (.agg ((cells.drop off).take n)) else none) else cells[off]?
    | _ => none
  | .rp cells => if agg then (if n ≤ cells.length then some (.agg ((cells.take n).map .d)) else none) else (cells[0]?).map .d
  | _ => none

def isAggD : TypeDesc → Bool
  | .struct _ | .array _ _ => true
  | _ => false

/-- What a type's row of the table says: is it a struct or an array; how many cells. -/
def TyIs (P : Program) (t : TypeId) (agg : Bool) (n : Nat) : Prop := (P.underlying t).map isAggD = some agg ∧ (P.info? t).map (·.size) = some n

inductive ResV (P : Program) (s : St) : ResultVar → V → Prop where
  | tmp (t : Tmp) : ResV P s (.tmp t) (s.get t)
  | cell {t : Tmp} {ty : TypeId} {agg : Bool} {n : Nat} {r : V} (ht : TyIs P ty agg n) (h : loadA agg n s.hp (s.get t) = some r) : ResV P s (.cell t ty) r

inductive ResL (P : Program) (s : St) : List ResultVar → List V → Prop where
  | nil : ResL P s [] []
  | cons {x : ResultVar} {l : List ResultVar} {r : V} {rs : List V} (h : ResV P s x r) (k : ResL P s l rs) : ResL P s (x :: l) (r :: rs)

def tupV : List V → V
  | [x] => x
  | l => .tup l
end
end Go.Ab

set_option linter.unusedVariables false
set_option linter.unusedSimpArgs false
namespace Go.Ab
section
variable {P : Program}

/-! ### Heads: what a value is -/
def D.oneC : D → Bool
  | .lit v => v.oneCell'
  | .sl _ => true
def V.oneC : V → Bool
  | .d x => x.oneC
  | .agg _ | .tup _ | .any => false
  | _ => true

theorem RepD.oneC {F : Mem} {v : Value} {x : D} (h : RepD F v x) (hx : x.oneC = true) : v.oneCell' = true := by
  cases h with
  | lit v h => exact hx
  | sl => rfl
theorem Rep.oneC {F : Mem} {M : Pls} {v : Value} {x : V} (h : Rep F M v x) (hx : x.oneC = true) : v.oneCell' = true := by
  cases h with
  | d h => exact h.oneC hx
  | gs h => cases h; rfl
  | any => simp [V.oneC] at hx
  | agg => simp [V.oneC] at hx
  | tup => simp [V.oneC] at hx
  | _ => rfl

def cellsV : V → List V
  | .agg cs => cs
  | v => [v]

theorem Rep.cells {F : Mem} {M : Pls} {v : Value} {x : V} (h : Rep F M v x) (hx : (cellsV x).all V.oneC = true) :
    v.cells.size = (cellsV x).length ∧ (∀ j, j < (cellsV x).length → Rep F M (v.cells.getD j undef) ((cellsV x).getD j .any)) ∧ (∀ j, j < (cellsV x).length → (v.cells.getD j undef).oneCell' = true) := by
  by_cases hagg : ∃ cs, x = .agg cs
  · obtain ⟨cells, rfl⟩ := hagg
    cases h with
    | agg cs _ hs hr =>
      refine ⟨hs, hr, fun j hj => (hr j hj).oneC ?_⟩
      simp only [cellsV] at hx hj ⊢
      have := List.all_eq_true.1 hx (cells.getD j .any) (by simp [List.getD_eq_getElem?_getD, hj])
      exact this
  · have hc : cellsV x = [x] := by cases x <;> first | rfl | (exfalso; exact hagg ⟨_, rfl⟩)
    rw [hc] at hx ⊢
    simp at hx
    have h1 := h.oneC hx
    have hv : v.cells = #[v] := by cases v <;> simp_all [Value.cells, Value.oneCell']
    rw [hv]
    refine ⟨rfl, fun j hj => ?_, fun j hj => ?_⟩
    · simp at hj; subst hj; exact h
    · simp at hj; subst hj; exact h1

/-! ### Loads -/
theorem tyIs_agg {t : TypeId} {agg : Bool} {n : Nat} (h : TyIs P t agg n) (w : World) : (isAgg t).run P w = .ok agg w := by
  obtain ⟨h1, h2⟩ := h
  cases hu : P.underlying t with
  | none => simp [hu] at h1
  | some d =>
    simp [hu] at h1
    unfold isAgg
    rw [Sem.run_bind, run_underlying hu w]
    subst h1
    cases d <;> rfl
theorem tyIs_size {t : TypeId} {agg : Bool} {n : Nat} (h : TyIs P t agg n) (w : World) : (sizeOf t).run P w = .ok n w := by
  obtain ⟨h1, h2⟩ := h
  cases hi : P.info? t with
  | none => simp [hi] at h2
  | some i => simp [hi] at h2; simp [sizeOf, typeInfo, hi, h2]

theorem add_lit (b o k : Nat) : (⟨b, o, none⟩ : Addr).add k = ⟨b, o + k, none⟩ := by unfold Addr.add; split <;> simp_all

theorem run_loadVar_cells {t : TypeId} {n : Nat} (ht : TyIs P t true n) (w : World) (a : Addr) (f : Nat → Value) (h : ∀ j, j < n → w.cell? (a.add j) = some (f j)) :
    (loadVar t a).run P w = .ok (.agg ((List.range n).map f).toArray) w := by
  have h1 := tyIs_agg ht w
  have h2 := tyIs_size ht w
  have h3 := run_loadCells (P := P) w a n f h
  simp [loadVar, Sem.run_bind, h1, h2, h3]

theorem run_loadVar_cell {t : TypeId} {n : Nat} (ht : TyIs P t false n) (w : World) (a : Addr) (v : Value) (h : w.cell? a = some v) :
    (loadVar t a).run P w = .ok v w := by
  have h1 := tyIs_agg ht w
  simp [loadVar, Sem.run_bind, h1, run_load, h]

theorem loadA_sound {F : Mem} {M : Pls} {w : World} {H : List O} {agg : Bool} {n : Nat} {t : TypeId} {x r : V} {v : Value} (hi : Inv F M w H) (hv : Rep F M v x) (ht : TyIs P t agg n)
    (h : loadA agg n H x = some r) : ∃ a u, v = .pointer (some a) ∧ (loadVar t a).run P w = .ok u w ∧ Rep F M u r := by
  cases hv with
  | @bx id blk off hM =>
    simp only [loadA] at h
    split at h
    · rename_i ty cells hH
      have hobj := hi.objs id _ _ hH hM
      cases hobj with
      | row _ _ _ c hc hs hr h1 hF =>
        cases agg with
        | true =>
          simp at h
          obtain ⟨hle, rfl⟩ := h
          have hcell : ∀ j, j < n → w.cell? ((⟨blk, off, none⟩ : Addr).add j) = some (c.getD (off + j) undef) := fun j hj => by
            rw [add_lit]
            have hlt : off + j < c.size := by rw [hs]; omega
            simp [World.cell?, hc, hlt]
          refine ⟨_, _, rfl, run_loadVar_cells ht w _ _ hcell, .agg _ _ (by simp; omega) fun j hj => ?_⟩
          simp at hj
          have := hr (off + j) (by omega)
          have e1 : ((List.range n).map fun j => c.getD (off + j) undef).toArray.getD j undef = c.getD (off + j) undef := by
            simp [Array.getD_eq_getD_getElem?, List.getElem?_range (show j < n by omega)]
          have e2 : ((cells.drop off).take n).getD j .any = cells.getD (off + j) .any := by
            simp [List.getD_eq_getElem?_getD, List.getElem?_take, show j < n by omega]
          rw [e1, e2]; exact this
        | false =>
          simp at h
          have hlt := (List.getElem?_eq_some_iff.1 h).1
          have hcell : w.cell? ⟨blk, off, none⟩ = some (c.getD off undef) := by
            have hlt' : off < c.size := by rw [hs]; exact hlt
            simp [World.cell?, hc, hlt']
          refine ⟨_, _, rfl, run_loadVar_cell ht w _ _ hcell, ?_⟩
          have := hr off hlt
          rwa [List.getD_eq_getElem?_getD, h] at this
    · cases h
  | rp a cells vals hf hr =>
    cases agg with
    | true =>
      simp [loadA] at h
      obtain ⟨hle, rfl⟩ := h
      refine ⟨_, _, rfl, run_loadVar_cells ht w a vals (fun j hj => hi.cells _ _ (hf j (by omega))), .agg _ _ (by simp; omega) fun j hj => ?_⟩
      simp at hj
      have := hr j (by omega)
      have e1 : ((List.range n).map vals).toArray.getD j undef = vals j := by
        simp [Array.getD_eq_getD_getElem?, List.getElem?_range (show j < n by omega)]
      have e2 : ((cells.map V.d).take n).getD j .any = .d (cells.getD j default) := by
        simp [List.getD_eq_getElem?_getD, List.getElem?_take, show j < n by omega, List.getElem?_eq_getElem (show j < cells.length by omega)]
      rw [e1, e2]
      exact .d this
    | false =>
      simp [loadA] at h
      obtain ⟨x, hx, rfl⟩ := h
      have hlt := (List.getElem?_eq_some_iff.1 hx).1
      have hc := hi.cells _ _ (hf 0 hlt)
      rw [add_zero] at hc
      refine ⟨_, _, rfl, run_loadVar_cell ht w a _ hc, .d ?_⟩
      have := hr 0 hlt
      rwa [List.getD_eq_getElem?_getD, hx] at this
  | _ => simp [loadA] at h

theorem Yp.load {o : Oper} {g : Nat → V} {H : List O} {t : TypeId} {x : Operand} {agg : Bool} {n : Nat} {r : V} (ho : o.op = .load t x) (ht : TyIs P t agg n)
    (h : loadA agg n H (evO g x) = some r) : Yp P o g H r := by
  intro F M w ρ hi hr
  obtain ⟨a, u, hv, hrun, hu⟩ := loadA_sound hi (hr x) ht h
  refine ⟨u, ?_, hu⟩
  simp [execOp, ho, Instr.loadAt, Instr.sureAddr, hv, hrun]

/-! ### Moves, constants -/
theorem Yp.move {o : Oper} {g : Nat → V} {H : List O} {x : Operand} (ho : o.op = .move x ∨ o.op = .assign x) : Yp P o g H (evO g x) := by
  intro F M w ρ hi hr
  refine ⟨ρ x, ?_, hr x⟩
  rcases ho with ho | ho <;> simp [execOp, ho]

theorem Yp.pick {o : Oper} {g : Nat → V} {H : List O} {c x y : Operand} (b : Bool) (ho : o.op = .pick c x y) (hc : evO g c = .d (.lit (.bool b))) : Yp P o g H (if b then evO g x else evO g y) := by
  intro F M w ρ hi hr
  have h := hr c
  rw [hc] at h
  have := h.lit_inv
  refine ⟨if b then ρ x else ρ y, ?_, ?_⟩
  · simp [execOp, ho, this, asBool]
  · split <;> exact hr _

theorem Yp.extract {o : Oper} {g : Nat → V} {H : List O} {x : Operand} {i : Nat} {vs : List V} {r : V} (ho : o.op = .extract x i) (hx : evO g x = .tup vs) (h : vs[i]? = some r) : Yp P o g H r := by
  intro F M w ρ hi hr
  have h1 := hr x
  rw [hx] at h1
  generalize hv : ρ x = v at h1
  cases h1 with
  | tup cs _ hs hrr =>
    have hlt := (List.getElem?_eq_some_iff.1 h).1
    have hlt' : i < cs.size := by rw [hs]; exact hlt
    have h2 := hrr i hlt
    rw [List.getD_eq_getElem?_getD, h] at h2
    refine ⟨cs.getD i undef, ?_, h2⟩
    simp [execOp, ho, hv, Instr.extract, hlt', Array.getD_eq_getD_getElem?]
end
end Go.Ab

set_option linter.unusedVariables false
set_option linter.unusedSimpArgs false
namespace Go.Ab
section
variable {P : Program}

/-! ### New things of the call's own -/
theorem heap_push_old (w : World) (o : Obj) (k : Nat) (h : k < w.heap.size) : (w.alloc o).heap[k]? = w.heap[k]? := heap_alloc_old w o h

theorem F_old {F : Mem} {M : Pls} {w : World} {H : List O} (hi : Inv F M w H) {a : Addr} {v : Value} (h : F a = some v) : a.block < w.heap.size :=
  World.block_lt_of_cell? w a (hi.cells a v h)

theorem F_new {F : Mem} {M : Pls} {w : World} {H : List O} (hi : Inv F M w H) (o : Nat) (s : Option Nat) : F ⟨w.heap.size, o, s⟩ = none := by
  cases h : F ⟨w.heap.size, o, s⟩ with
  | none => rfl
  | some v => have := F_old hi h; simp at this

theorem cell_alloc (w : World) (o : Obj) {a : Addr} {v : Value} (h : w.cell? a = some v) : (w.alloc o).cell? a = some v := by
  rw [World.cell?_alloc_lt w o a (World.block_lt_of_cell? w a h)]; exact h

theorem ObjRep.mono {F F' : Mem} {M M' : Pls} {w w' : World} {o : O} {p : Pl} (h : ObjRep F M w o p) (hF : F.le F') (hM : Pls.le M M')
    (hb : ∀ b, p.blk = some b → w'.heap[b]? = w.heap[b]?) (hn : ∀ b, p.blk = some b → ∀ o s, F ⟨b, o, s⟩ = none → F' ⟨b, o, s⟩ = none) : ObjRep F' M' w' o p := by
  cases h with
  | row ty cells blk c hc hs hr h1 hF0 =>
    exact .row ty cells blk c (by rw [hb blk rfl]; exact hc) hs (fun j hj => (hr j hj).mono hF hM) h1 (fun o s => hn blk rfl o s (hF0 o s))
  | nil ty sz => exact .nil ty sz
  | tok ty sz n blk cap c hc hs hn' hcap hpre hF0 =>
    exact .tok ty sz n blk cap c (by rw [hb blk rfl]; exact hc) hs hn' hcap (fun k hk => hF _ _ (hpre k hk)) (fun o s ho => hn blk rfl o s (hF0 o s ho))
  | dead p => exact .dead p

theorem getElem?_snoc {α : Type} (l : List α) (x : α) (i : Nat) (y : α) (h : (l ++ [x])[i]? = some y) : l[i]? = some y ∨ (i = l.length ∧ y = x) := by
  rcases Nat.lt_or_ge i l.length with hl | hl
  · left; rwa [List.getElem?_append_left hl] at h
  · right
    rw [List.getElem?_append_right hl] at h
    have : i - l.length = 0 := by
      rcases Nat.eq_zero_or_pos (i - l.length) with h0 | h0
      · exact h0
      · rw [List.getElem?_eq_none (by simp; omega)] at h; cases h
    rw [this] at h
    simp at h
    exact ⟨by omega, h.symm⟩

/-- A thing more, in a block of its own (or in none). -/
theorem Inv.push {F : Mem} {M : Pls} {w w' : World} {H : List O} (hi : Inv F M w H) (o : O) (p : Pl) (hc : ∀ a v, w.cell? a = some v → w'.cell? a = some v)
    (hs : w.heap.size ≤ w'.heap.size) (hb : ∀ b, b < w.heap.size → w'.heap[b]? = w.heap[b]?) (ho : ObjRep F (M ++ [p]) w' o p)
    (hp : ∀ b, p.blk = some b → w.heap.size ≤ b ∧ b < w'.heap.size) : Inv F (M ++ [p]) w' (H ++ [o]) := by
  have hlen := hi.len
  refine ⟨fun a v h => hc _ _ (hi.cells a v h), by simp [hi.len], ?_, ?_, ?_, hi.gnd⟩
  · intro i o' p' h1 h2
    rcases getElem?_snoc _ _ _ _ h1 with h1 | ⟨h1, rfl⟩ <;> rcases getElem?_snoc _ _ _ _ h2 with h2 | ⟨h2, rfl⟩
    · exact (hi.objs i o' p' h1 h2).mono (.refl _) (.append _ _) (fun b e => hb b (hi.inb i p' b h2 e)) (fun b e o s h => h)
    · have := (List.getElem?_eq_some_iff.1 h1).1; omega
    · have := (List.getElem?_eq_some_iff.1 h2).1; omega
    · exact ho
  · intro i j o1 o2 p1 p2 b hne h1 h2 l1 l2 m1 m2 e1 e2
    rcases getElem?_snoc _ _ _ _ h1 with k1 | ⟨k1, e3⟩ <;> rcases getElem?_snoc _ _ _ _ h2 with k2 | ⟨k2, e4⟩ <;>
      rcases getElem?_snoc _ _ _ _ m1 with n1 | ⟨n1, e5⟩ <;> rcases getElem?_snoc _ _ _ _ m2 with n2 | ⟨n2, e6⟩
    all_goals first
      | exact hi.sep i j _ _ _ _ b hne k1 k2 l1 l2 n1 n2 e1 e2
      | (have a1 := hi.inb _ _ _ n1 e1; subst e6; have a2 := (hp _ e2).1; omega)
      | (have a1 := hi.inb _ _ _ n2 e2; subst e5; have a2 := (hp _ e1).1; omega)
      | (have a1 := (List.getElem?_eq_some_iff.1 k1).1; omega)
      | (have a1 := (List.getElem?_eq_some_iff.1 k2).1; omega)
      | (have a1 := (List.getElem?_eq_some_iff.1 n1).1; omega)
      | (have a1 := (List.getElem?_eq_some_iff.1 n2).1; omega)
      | omega
  · intro i p' b h e
    rcases getElem?_snoc _ _ _ _ h with h | ⟨h, rfl⟩
    · exact Nat.lt_of_lt_of_le (hi.inb i p' b h e) hs
    · exact (hp b e).2

theorem Ext.push {F : Mem} {M : Pls} {w w' : World} (p : Pl) (hs : w.heap.size ≤ w'.heap.size) (hos : w'.os = w.os) (ht : w'.tape = w.tape) (ho : w'.output = w.output)
    (hb : ∀ b, b < w.heap.size → w'.heap[b]? = w.heap[b]?) (hp : ∀ b, p.blk = some b → w.heap.size ≤ b) : Ext F M w F (M ++ [p]) w' :=
  ⟨.refl _, .append _ _, hs, hos, ht, ho, fun k hk _ => hb k hk, fun a h h' => absurd h h', fun i q b h e => by
    rcases getElem?_snoc _ _ _ _ h with h | ⟨h, rfl⟩
    · exact .inr ⟨i, q, h, e⟩
    · exact .inl (hp b e)⟩

/-- A new row of cells. -/
theorem alloc_row {F : Mem} {M : Pls} {w : World} {H : List O} (hi : Inv F M w H) (ty : TypeId) (c : Array Value) (cells : List V) (hs : c.size = cells.length)
    (hr : ∀ j, j < cells.length → Rep F M (c.getD j undef) (cells.getD j .any)) (h1 : ∀ j, j < cells.length → (c.getD j undef).oneCell' = true) :
    Inv F (M ++ [.row w.heap.size]) (w.alloc (.cells c ty)) (H ++ [.row ty cells]) ∧ Ext F M w F (M ++ [.row w.heap.size]) (w.alloc (.cells c ty)) ∧
      Rep F (M ++ [.row w.heap.size]) (.pointer (some ⟨w.heap.size, 0, none⟩)) (.bx H.length 0) := by
  refine ⟨hi.push _ _ (fun a v h => cell_alloc w _ h) (by simp) (fun b hb => heap_push_old w _ b hb) ?_ ?_, Ext.push _ (by simp) rfl rfl rfl (fun b hb => heap_push_old w _ b hb) ?_, ?_⟩
  · exact .row ty cells w.heap.size c (heap_alloc_new w _) hs (fun j hj => (hr j hj).mono (.refl _) (.append _ _)) h1 (F_new hi)
  · intro b e; simp [Pl.blk] at e; subst e; simp
  · intro b e; simp [Pl.blk] at e; omega
  · exact .bx 0 (by rw [← hi.len]; simp)

theorem Yl.box {o : Oper} {g : Nat → V} {H : List O} {t : TypeId} {x : Operand} (ho : o.op = .box t x) (h1 : (cellsV (evO g x)).all V.oneC = true) :
    Yl P o g H (.bx H.length 0) (H ++ [.row t (cellsV (evO g x))]) := by
  intro F M w ρ hi hr
  obtain ⟨hs, hr1, hr2⟩ := (hr x).cells h1
  obtain ⟨a1, a2, a3⟩ := alloc_row hi t (ρ x).cells (cellsV (evO g x)) hs hr1 hr2
  refine ⟨_, _, F, _, .inl ?_, a3, a1, a2⟩
  simp [execOp, ho, Instr.box, newVar, newRow]

/-- The zero value of a type. -/
def zeroV (P : Program) (t : TypeId) : Option V := ((P.info? t).bind (·.zero)).map ofC

theorem zero_run {t : TypeId} {z : V} (h : zeroV P t = some z) : ∃ v, (∀ w, (zeroValue t).run P w = .ok v w) ∧ z = ofC v := by
  unfold zeroV at h
  cases hi : P.info? t with
  | none => simp [hi] at h
  | some i =>
    cases hz : i.zero with
    | none => simp [hi, hz] at h
    | some v =>
      simp [hi, hz] at h
      exact ⟨v, fun w => by simp [zeroValue, typeInfo, hi, hz], h.symm⟩

theorem Yl.alloc {o : Oper} {g : Nat → V} {H : List O} {t : TypeId} {z : V} (ho : o.op = .alloc t) (hz : zeroV P t = some z) (h1 : (cellsV z).all V.oneC = true) :
    Yl P o g H (.bx H.length 0) (H ++ [.row t (cellsV z)]) := by
  intro F M w ρ hi hr
  obtain ⟨v, hv, rfl⟩ := zero_run hz
  obtain ⟨hs, hr1, hr2⟩ := (rep_ofC F M v).cells h1
  obtain ⟨a1, a2, a3⟩ := alloc_row hi t v.cells (cellsV (ofC v)) hs hr1 hr2
  refine ⟨_, _, F, _, .inl ?_, a3, a1, a2⟩
  have := hv w
  simp [execOp, ho, Instr.alloc, newVar, newRow, this]

end
end Go.Ab

set_option linter.unusedVariables false
set_option linter.unusedSimpArgs false
namespace Go.Ab
section
variable {P : Program}

/-! ### Lists read -/
def rowsD : D → Option (List (List D))
  | .sl rows => some rows
  | .lit (.slice none 0 0) => some []
  | _ => none
def rowsOf : V → Option (List (List D))
  | .d x => rowsD x
  | .gs _ rows => some rows
  | .xs rows => some rows
  | _ => none

theorem repD_nil (F : Mem) : RepD F (.slice none 0 0) (.sl []) :=
  .sl none 0 0 [] (fun _ => undef) (by simp) (by simp [maxRows]) (by simp) (by simp) (by simp)

theorem rowsD_sound {F : Mem} {v : Value} {x : D} {rows : List (List D)} (h : RepD F v x) (hx : rowsD x = some rows) : RepD F v (.sl rows) := by
  unfold rowsD at hx
  split at hx
  · cases hx; exact h
  · cases hx; cases h; exact repD_nil F
  · cases hx

theorem rowsOf_sound {F : Mem} {M : Pls} {v : Value} {x : V} {rows : List (List D)} (h : Rep F M v x) (hx : rowsOf x = some rows) : RepD F v (.sl rows) := by
  cases h with
  | d h => exact rowsD_sound h hx
  | gs h => simp [rowsOf] at hx; subst hx; exact h
  | xs h => simp [rowsOf] at hx; subst hx; exact h
  | _ => simp [rowsOf] at hx

def lenOf : V → Option Nat
  | .hs _ _ n => some n
  | x => (rowsOf x).map List.length

theorem lenOf_sound {F : Mem} {M : Pls} {v : Value} {x : V} {n : Nat} (h : Rep F M v x) (hx : lenOf x = some n) : ∃ a c, v = .slice a n c ∧ n ≤ maxLen := by
  by_cases hh : ∃ i o m, x = .hs i o m
  · obtain ⟨i, o, m, rfl⟩ := hh
    simp [lenOf] at hx; subst hx
    cases h with
    | hs off len cap h hl => exact ⟨_, _, rfl, hl⟩
  · have : lenOf x = (rowsOf x).map List.length := by
      unfold lenOf
      split
      · exact absurd ⟨_, _, _, rfl⟩ hh
      · rfl
    rw [this] at hx
    cases hr : rowsOf x with
    | none => simp [hr] at hx
    | some rows =>
      simp [hr] at hx
      subst hx
      cases rowsOf_sound h hr with
      | sl a cap sz rows vals hrow hlen hcap ha hr => exact ⟨_, _, rfl, by simp only [maxRows] at hlen; simp only [maxLen]; omega⟩

theorem Yp.lenSlice {o : Oper} {g : Nat → V} {H : List O} {x : Operand} {t e : TypeId} {n : Nat} (ho : o.op = .call { callee := .builtin .len, args := #[x], argTypes := #[t] })
    (ht : P.underlying t = some (.slice e)) (hx : lenOf (evO g x) = some n) : Yp P o g H (.d (.lit (.int .i64 n))) := by
  intro F M w ρ hi hr
  obtain ⟨a, c, hv, _⟩ := lenOf_sound (hr x) hx
  refine ⟨_, ?_, .lit _⟩
  simp [execOp, ho, resolve, invoke, builtin, Builtin.len_, run_underlying ht, hv, goInt]

theorem Yp.lenStr {o : Oper} {g : Nat → V} {H : List O} {x : Operand} {t : TypeId} {s : ByteArray} (ho : o.op = .call { callee := .builtin .len, args := #[x], argTypes := #[t] })
    (ht : P.underlying t = some .string) (hx : evO g x = .d (.lit (.string s))) : Yp P o g H (.d (.lit (.int .i64 s.size))) := by
  intro F M w ρ hi hr
  have h := hr x
  rw [hx] at h
  refine ⟨_, ?_, .lit _⟩
  simp [execOp, ho, resolve, invoke, builtin, Builtin.len_, run_underlying ht, h.lit_inv, goInt]

theorem getD_row {rows : List (List D)} {sz i : Nat} (hrow : ∀ r ∈ rows, r.length = sz) (hi : i < rows.length) : (rows.getD i []).length = sz := by
  rw [List.getD_eq_getElem?_getD, List.getElem?_eq_getElem hi]
  exact hrow _ (List.getElem_mem hi)

theorem row_ptr {F : Mem} {M : Pls} {a : Option Addr} {cap : Nat} {rows : List (List D)} {i n : Nat} (h : RepD F (.slice a rows.length cap) (.sl rows)) (hi : i < rows.length)
    (hn : (rows.getD i []).length = n) (hn0 : 0 < n) : ∃ ad, a = some ad ∧ Rep F M (.pointer (some (ad.add (i * n)))) (.rp (rows.getD i [])) := by
  generalize hv : Value.slice a rows.length cap = v at h
  cases h with
  | sl a' cap' sz _ vals hrow hlen hcap ha hr =>
    injection hv with e1 e2 e3
    subst e1
    have hsz : sz = n := by rw [← getD_row hrow hi]; exact hn
    subst hsz
    obtain ⟨ad, rfl, hf⟩ := ha (Nat.mul_pos (by omega) hn0)
    refine ⟨ad, rfl, .rp _ _ (fun j => vals (i * sz + j)) (fun j hj => ?_) (fun j hj => hr i j hi (by rw [← hn]; exact hj))⟩
    rw [add_add]
    refine hf _ ?_
    rw [hn] at hj
    calc i * sz + j < i * sz + sz := by omega
      _ = (i + 1) * sz := by rw [Nat.add_mul]; simp
      _ ≤ rows.length * sz := Nat.mul_le_mul_right _ hi

theorem Yp.indexAddr {o : Oper} {g : Nat → V} {H : List O} {x ix : Operand} {t e : TypeId} {agg : Bool} {n : Nat} {rows : List (List D)} {k : IntKind} {i : Int}
    (ho : o.op = .indexAddr t x ix) (ht : P.underlying t = some (.slice e)) (he : TyIs P e agg n) (hx : rowsOf (evO g x) = some rows) (hix : evO g ix = .d (.lit (.int k i)))
    (h0 : 0 ≤ i) (h1 : i < rows.length) (hn : (rows.getD i.toNat []).length = n) (hn0 : 0 < n) : Yp P o g H (.rp (rows.getD i.toNat [])) := by
  intro F M w ρ hi hr
  have h2 := hr ix
  rw [hix] at h2
  have h3 := rowsOf_sound (hr x) hx
  generalize hv : ρ x = v at h3
  have h4 := h3
  cases h4 with
  | sl a cap sz _ vals hrow hlen hcap ha hrr =>
    obtain ⟨ad, rfl, hrep⟩ := row_ptr (M := M) h3 (i := i.toNat) (by omega) hn hn0
    refine ⟨_, ?_, hrep⟩
    have hs := tyIs_size he w
    simp [execOp, ho, Instr.indexAt, h2.lit_inv, asIntOf, run_underlying ht, hv, h0, h1, hs]

/-- The same, an array of the call's own. -/
theorem Yp.indexAddrOwn {o : Oper} {g : Nat → V} {H : List O} {x ix : Operand} {t e : TypeId} {agg : Bool} {n id off len : Nat} {k : IntKind} {i : Int}
    (ho : o.op = .indexAddr t x ix) (ht : P.underlying t = some (.slice e)) (he : TyIs P e agg n) (hx : evO g x = .hs id off len) (hix : evO g ix = .d (.lit (.int k i)))
    (h0 : 0 ≤ i) (h1 : i < len) : Yp P o g H (.bx id (off + i.toNat * n)) := by
  intro F M w ρ hi hr
  have h2 := hr ix
  rw [hix] at h2
  have h3 := hr x
  rw [hx] at h3
  generalize hv : ρ x = v at h3
  cases h3 with
  | hs off len cap h hl =>
    refine ⟨_, ?_, .bx _ h⟩
    have hs := tyIs_size he w
    simp [execOp, ho, Instr.indexAt, h2.lit_inv, asIntOf, run_underlying ht, hv, h0, h1, hs, add_lit]

theorem Yp.indexStr {o : Oper} {g : Nat → V} {H : List O} {x ix : Operand} {t : TypeId} {s : ByteArray} {k : IntKind} {i : Int} (ho : o.op = .index t x ix) (ht : P.underlying t = some .string)
    (hx : evO g x = .d (.lit (.string s))) (hix : evO g ix = .d (.lit (.int k i))) (h0 : 0 ≤ i) (h1 : i.toNat < s.size) : Yp P o g H (.d (.lit (.int .u8 (s[i.toNat]'h1).toNat))) := by
  intro F M w ρ hi hr
  have h2 := hr ix
  rw [hix] at h2
  have h3 := hr x
  rw [hx] at h3
  refine ⟨_, ?_, .lit _⟩
  simp [execOp, ho, Instr.index, h2.lit_inv, h3.lit_inv, asIntOf, run_underlying ht, h0, h1]

def partV (agg : Bool) (n : Nat) (cs : List V) (off : Nat) : Option V :=
  if agg then some (.agg ((cs.drop off).take n)) else cs[off]?

theorem part_sound {F : Mem} {M : Pls} {w : World} {t : TypeId} {agg : Bool} {n : Nat} {cs : Array Value} {cells : List V} {off : Nat} {r : V} (ht : TyIs P t agg n) (hs : cs.size = cells.length)
    (hr : ∀ j, j < cells.length → Rep F M (cs.getD j undef) (cells.getD j .any)) (h : partV agg n cells off = some r) (hle : off + n ≤ cells.length) : ∃ u, (part t cs off).run P w = .ok u w ∧ Rep F M u r := by
  unfold partV at h
  cases agg with
  | true =>
    simp at h; subst h
    refine ⟨.agg (cs.extract off (off + n)), ?_, .agg _ _ (by simp; omega) fun j hj => ?_⟩
    · simp [part, tyIs_agg ht w, tyIs_size ht w]
    · simp at hj
      have := hr (off + j) (by omega)
      have e1 : (cs.extract off (off + n)).getD j undef = cs.getD (off + j) undef := by
        simp [Array.getD_eq_getD_getElem?, Array.getElem?_extract, show j < min (off + n) cs.size - off by omega, show off + j < cs.size by omega]
      have e2 : ((cells.drop off).take n).getD j .any = cells.getD (off + j) .any := by
        simp [List.getD_eq_getElem?_getD, List.getElem?_take, show j < n by omega]
      rw [e1, e2]; exact this
  | false =>
    simp at h
    have hlt := (List.getElem?_eq_some_iff.1 h).1
    have := hr off hlt
    rw [List.getD_eq_getElem?_getD, h] at this
    refine ⟨cs.getD off undef, ?_, this⟩
    have hlt' : off < cs.size := by rw [hs]; exact hlt
    simp [part, tyIs_agg ht w, hlt', Array.getD_eq_getD_getElem?]

theorem Yp.field {o : Oper} {g : Nat → V} {H : List O} {x : Operand} {t : TypeId} {f : Nat} {fs : Array Field} {fd : Field} {agg : Bool} {n : Nat} {cells : List V} {r : V} (ho : o.op = .field t x f)
    (ht : P.underlying t = some (.struct fs)) (hf : fs[f]? = some fd) (hft : TyIs P fd.type agg n) (hx : evO g x = .agg cells) (h : partV agg n cells fd.offset = some r) (hle : fd.offset + n ≤ cells.length) : Yp P o g H r := by
  intro F M w ρ hi hr
  have h1 := hr x
  rw [hx] at h1
  generalize hv : ρ x = v at h1
  cases h1 with
  | agg cs _ hs hrr =>
    obtain ⟨u, hrun, hu⟩ := part_sound (P := P) (w := w) hft hs hrr h hle
    refine ⟨u, ?_, hu⟩
    simp [execOp, ho, Instr.field, run_underlying ht, hf, hv, asAgg, hrun]

theorem Yp.indexArr {o : Oper} {g : Nat → V} {H : List O} {x ix : Operand} {t e : TypeId} {len : Nat} {agg : Bool} {n : Nat} {cells : List V} {r : V} {k : IntKind} {i : Int} (ho : o.op = .index t x ix)
    (ht : P.underlying t = some (.array len e)) (he : TyIs P e agg n) (hx : evO g x = .agg cells) (hix : evO g ix = .d (.lit (.int k i))) (h0 : 0 ≤ i) (h1 : i < len)
    (h : partV agg n cells (i.toNat * n) = some r) (hle : i.toNat * n + n ≤ cells.length) : Yp P o g H r := by
  intro F M w ρ hi hr
  have h1' := hr x
  rw [hx] at h1'
  have h2 := hr ix
  rw [hix] at h2
  generalize hv : ρ x = v at h1'
  cases h1' with
  | agg cs _ hs hrr =>
    obtain ⟨u, hrun, hu⟩ := part_sound (P := P) (w := w) he hs hrr h hle
    refine ⟨u, ?_, hu⟩
    simp [execOp, ho, Instr.index, h2.lit_inv, asIntOf, run_underlying ht, hv, h0, h1, tyIs_size he w, hrun]

theorem Yp.fieldAddrBx {o : Oper} {g : Nat → V} {H : List O} {x : Operand} {t : TypeId} {f : Nat} {fs : Array Field} {fd : Field} {agg : Bool} {n id off : Nat} (ho : o.op = .fieldAddr t x f)
    (ht : P.underlying t = some (.struct fs)) (hf : fs[f]? = some fd) (hft : TyIs P fd.type agg n) (hn : 0 < n) (hx : evO g x = .bx id off) : Yp P o g H (.bx id (off + fd.offset)) := by
  intro F M w ρ hi hr
  have h1 := hr x
  rw [hx] at h1
  generalize hv : ρ x = v at h1
  cases h1 with
  | bx off h =>
    refine ⟨_, ?_, .bx _ h⟩
    simp [execOp, ho, Instr.fieldAt, Instr.sureAddr, run_underlying ht, hf, hv, fieldPlace, tyIs_size hft w, Nat.ne_of_gt hn, add_lit]

theorem rp_drop {F : Mem} {M : Pls} {a : Addr} {cells : List D} {k : Nat} (h : Rep F M (.pointer (some a)) (.rp cells)) : Rep F M (.pointer (some (a.add k))) (.rp (cells.drop k)) := by
  cases h with
  | rp _ _ vals hf hr =>
    refine .rp _ _ (fun j => vals (k + j)) (fun j hj => ?_) (fun j hj => ?_)
    · rw [add_add]; exact hf _ (by simp at hj; omega)
    · have := hr (k + j) (by simp at hj; omega)
      simpa [List.getD_eq_getElem?_getD] using this

theorem Yp.fieldAddrRp {o : Oper} {g : Nat → V} {H : List O} {x : Operand} {t : TypeId} {f : Nat} {fs : Array Field} {fd : Field} {agg : Bool} {n : Nat} {cells : List D} (ho : o.op = .fieldAddr t x f)
    (ht : P.underlying t = some (.struct fs)) (hf : fs[f]? = some fd) (hft : TyIs P fd.type agg n) (hn : 0 < n) (hx : evO g x = .rp cells) : Yp P o g H (.rp (cells.drop fd.offset)) := by
  intro F M w ρ hi hr
  have h1 := hr x
  rw [hx] at h1
  generalize hv : ρ x = v at h1
  have h2 := h1
  cases h2 with
  | rp a _ vals hfF hrr =>
    refine ⟨_, ?_, rp_drop h1⟩
    simp [execOp, ho, Instr.fieldAt, Instr.sureAddr, run_underlying ht, hf, hv, fieldPlace, tyIs_size hft w, Nat.ne_of_gt hn]

theorem Yp.nilCheck {o : Oper} {g : Nat → V} {H : List O} {x : Operand} (ho : o.op = .nilCheck x) (hx : (∃ i k, evO g x = .bx i k) ∨ (∃ c, evO g x = .rp c) ∨ (∃ k a c, evO g x = .fn (.func k) a c)) : Yp P o g H (evO g x) := by
  intro F M w ρ hi hr
  have h1 := hr x
  refine ⟨ρ x, ?_, h1⟩
  rcases hx with ⟨i, k, e⟩ | ⟨c, e⟩ | ⟨k, a, c, e⟩ <;> rw [e] at h1 <;> generalize hv : ρ x = v at h1 <;> cases h1 <;> simp [execOp, ho, hv]

theorem Yp.makeFunc {o : Oper} {g : Nat → V} {H : List O} {f : Fn} {a c : Array Operand} (ho : o.op = .makeFunc f a c) : Yp P o g H (.fn f (a.toList.map (evO g)) (c.toList.map (evO g))) := by
  intro F M w ρ hi hr
  refine ⟨.func f (a.map ρ) (c.map ρ), by simp [execOp, ho, Instr.makeFunc], .fn f _ _ _ _ (by simp) (by simp) (fun j hj => ?_) (fun j hj => ?_)⟩
  · simp at hj
    simp [List.getD_eq_getElem?_getD, Array.getD_eq_getD_getElem?, hj]
    exact hr _
  · simp at hj
    simp [List.getD_eq_getElem?_getD, Array.getD_eq_getD_getElem?, hj]
    exact hr _
end
end Go.Ab

set_option linter.unusedVariables false
set_option linter.unusedSimpArgs false
namespace Go.Ab
section
variable {P : Program}

/-! ### Scalars -/
def binInt (op : BinOp) (k : IntKind) (a b : Int) : Option Value :=
  match op with
  | .add => some (.int k (k.wrap (a + b)))
  | .sub => some (.int k (k.wrap (a - b)))
  | .mul => some (.int k (k.wrap (a * b)))
  | .quo => if b = 0 then none else some (.int k (k.wrap (a.tdiv b)))
  | .rem => if b = 0 then none else some (.int k (a.tmod b))
  | .and => some (.int k (k.wrap (BitVec.ofInt k.bits a &&& BitVec.ofInt k.bits b).toNat))
  | .or => some (.int k (k.wrap (BitVec.ofInt k.bits a ||| BitVec.ofInt k.bits b).toNat))
  | .xor => some (.int k (k.wrap (BitVec.ofInt k.bits a ^^^ BitVec.ofInt k.bits b).toNat))
  | .andNot => some (.int k (k.wrap (BitVec.ofInt k.bits a &&& ~~~ BitVec.ofInt k.bits b).toNat))
  | .eql => some (.bool (a == b))
  | .neq => some (.bool (a != b))
  | .lss => some (.bool (decide (a < b)))
  | .leq => some (.bool (decide (a ≤ b)))
  | .gtr => some (.bool (decide (a > b)))
  | .geq => some (.bool (decide (a ≥ b)))
  | _ => none

def binShift (op : BinOp) (k : IntKind) (a b : Int) : Option Value :=
  if b < 0 then none else
  match op with
  | .shl => some (.int k (k.wrap (a * 2 ^ (min b.toNat k.bits))))
  | .shr => some (.int k (a.fdiv (2 ^ (min b.toNat k.bits))))
  | _ => none

def strEq (a b : ByteArray) : Bool := a.data.toList == b.data.toList
def strLt (a b : ByteArray) : Bool := Op.bytesLess a.data.toList b.data.toList

def binStr (op : BinOp) (a b : ByteArray) : Option Value :=
  match op with
  | .add => if a.size + b.size ≤ 4611686018427387904 then some (.string (a ++ b)) else none
  | .eql => some (.bool (strEq a b))
  | .neq => some (.bool (!strEq a b))
  | .lss => some (.bool (strLt a b))
  | .leq => some (.bool (strLt a b || strEq a b))
  | .gtr => some (.bool (!(strLt a b || strEq a b)))
  | .geq => some (.bool (!strLt a b))
  | _ => none

theorem binInt_ok {op : BinOp} {k : IntKind} {a b : Int} {r : Value} (h : binInt op k a b = some r) : litOk r = true := by
  cases op <;> simp [binInt] at h <;> first | (subst h; rfl) | (obtain ⟨_, rfl⟩ := h; rfl)
theorem binShift_ok {op : BinOp} {k : IntKind} {a b : Int} {r : Value} (h : binShift op k a b = some r) : litOk r = true := by
  unfold binShift at h
  split at h
  · cases h
  · cases op <;> simp at h <;> subst h <;> rfl
theorem binStr_ok {op : BinOp} {a b : ByteArray} {r : Value} (h : binStr op a b = some r) : litOk r = true := by
  cases op <;> simp [binStr] at h <;> first | (subst h; rfl) | (obtain ⟨h1, rfl⟩ := h; simp [litOk]; exact h1)

theorem Yp.binInt {o : Oper} {g : Nat → V} {H : List O} {op : BinOp} {xt yt : TypeId} {x y : Operand} {k : IntKind} {a b : Int} {r : Value} (ho : o.op = .binOp op xt x y yt)
    (hx : evO g x = .d (.lit (.int k a))) (hy : evO g y = .d (.lit (.int k b))) (hr : binInt op k a b = some r) : Yp P o g H (.d (.lit r)) := by
  intro F M w ρ hi hrep
  have h1 := hrep x; have h2 := hrep y
  rw [hx] at h1; rw [hy] at h2
  refine ⟨r, ?_, .lit r (binInt_ok hr)⟩
  have e1 := h1.lit_inv
  have e2 := h2.lit_inv
  cases op <;> simp [Ab.binInt] at hr <;>
    first
      | (subst hr; simp [execOp, ho, e1, e2, eqGuard, binOp, Op.intArith, Op.intCmp, Op.intBits]; done)
      | (obtain ⟨hb, rfl⟩ := hr; simp [execOp, ho, e1, e2, eqGuard, binOp, Op.intDiv, hb]; done)

theorem Yp.binShift {o : Oper} {g : Nat → V} {H : List O} {op : BinOp} {xt yt : TypeId} {x y : Operand} {k k' : IntKind} {a b : Int} {r : Value} (ho : o.op = .binOp op xt x y yt)
    (hx : evO g x = .d (.lit (.int k a))) (hy : evO g y = .d (.lit (.int k' b))) (hr : binShift op k a b = some r) : Yp P o g H (.d (.lit r)) := by
  intro F M w ρ hi hrep
  have h1 := hrep x; have h2 := hrep y
  rw [hx] at h1; rw [hy] at h2
  refine ⟨r, ?_, .lit r (binShift_ok hr)⟩
  have e1 := h1.lit_inv
  have e2 := h2.lit_inv
  unfold Ab.binShift at hr
  split at hr
  · cases hr
  · rename_i hb
    cases op <;> simp at hr <;> (subst hr; simp [execOp, ho, e1, e2, eqGuard, binOp, Op.shift, hb])

theorem Yp.binStr {o : Oper} {g : Nat → V} {H : List O} {op : BinOp} {xt yt : TypeId} {x y : Operand} {a b : ByteArray} {r : Value} (ho : o.op = .binOp op xt x y yt)
    (hx : evO g x = .d (.lit (.string a))) (hy : evO g y = .d (.lit (.string b))) (hr : binStr op a b = some r) : Yp P o g H (.d (.lit r)) := by
  intro F M w ρ hi hrep
  have h1 := hrep x; have h2 := hrep y
  rw [hx] at h1; rw [hy] at h2
  refine ⟨r, ?_, .lit r (binStr_ok hr)⟩
  have e1 := h1.lit_inv
  have e2 := h2.lit_inv
  cases op <;> simp [Ab.binStr] at hr <;>
    first
      | (subst hr; simp [execOp, ho, e1, e2, eqGuard, binOp, Op.stringOp, strEq, strLt, ByteArray.toList_eq]; done)
      | (obtain ⟨hb, rfl⟩ := hr
         have hm : ¬ (IntKind.i64.max < ((a.size : Int) + (b.size : Int))) := by simp [IntKind.max, IntKind.bits, IntKind.signed]; omega
         simp [execOp, ho, e1, e2, eqGuard, binOp, Op.stringOp, hm]; omega)

theorem run_equalIn_bool (w : World) (d : Nat) {t : TypeId} (ht : P.underlying t = some .bool) (a b : Bool) : (Op.equalIn (d + 1) t (.bool a) (.bool b)).run P w = .ok (a == b) w := by
  simp [Op.equalIn, run_underlying ht]

theorem run_equal_bool (w : World) {t : TypeId} (ht : P.underlying t = some .bool) (a b : Bool) : (Op.equal t (.bool a) (.bool b)).run P w = .ok (a == b) w := run_equalIn_bool w 9999 ht a b

theorem Yp.eqlBool {o : Oper} {g : Nat → V} {H : List O} {xt yt : TypeId} {x y : Operand} {a b : Bool} (ho : o.op = .binOp .eql xt x y yt) (ht : P.underlying xt = some .bool)
    (hx : evO g x = .d (.lit (.bool a))) (hy : evO g y = .d (.lit (.bool b))) : Yp P o g H (.d (.lit (.bool (a == b)))) := by
  intro F M w ρ hi hrep
  have h1 := hrep x; have h2 := hrep y
  rw [hx] at h1; rw [hy] at h2
  refine ⟨_, ?_, .lit _⟩
  have e3 := run_equal_bool (P := P) w ht a b
  have e4 : (eqGuard .eql xt x y (.bool a) (.bool b)).run P w = .ok () w := by simp [eqGuard]
  have e5 : (binOp .eql xt (.bool a) (.bool b)).run P w = .ok (.bool (a == b)) w := by simp only [binOp]; simp only [Sem.run_bind, e3, Result.andThen_ok, Sem.run_pure]
  simp only [execOp, ho, h1.lit_inv, h2.lit_inv, Sem.run_bind, e4, e5, Result.andThen_ok, Sem.run_pure]

theorem Yp.neqBool {o : Oper} {g : Nat → V} {H : List O} {xt yt : TypeId} {x y : Operand} {a b : Bool} (ho : o.op = .binOp .neq xt x y yt) (ht : P.underlying xt = some .bool)
    (hx : evO g x = .d (.lit (.bool a))) (hy : evO g y = .d (.lit (.bool b))) : Yp P o g H (.d (.lit (.bool (a != b)))) := by
  intro F M w ρ hi hrep
  have h1 := hrep x; have h2 := hrep y
  rw [hx] at h1; rw [hy] at h2
  refine ⟨_, ?_, .lit _⟩
  have e3 := run_equal_bool (P := P) w ht a b
  have e4 : (eqGuard .neq xt x y (.bool a) (.bool b)).run P w = .ok () w := by simp [eqGuard]
  have e5 : (binOp .neq xt (.bool a) (.bool b)).run P w = .ok (.bool (a != b)) w := by simp only [binOp]; simp only [Sem.run_bind, e3, Result.andThen_ok, Sem.run_pure]; rfl
  simp only [execOp, ho, h1.lit_inv, h2.lit_inv, Sem.run_bind, e4, e5, Result.andThen_ok, Sem.run_pure]

theorem Yp.not {o : Oper} {g : Nat → V} {H : List O} {t : TypeId} {x : Operand} {a : Bool} (ho : o.op = .unOp .not t x) (hx : evO g x = .d (.lit (.bool a))) : Yp P o g H (.d (.lit (.bool (!a)))) := by
  intro F M w ρ hi hrep
  have h1 := hrep x
  rw [hx] at h1
  refine ⟨_, ?_, .lit _⟩
  simp [execOp, ho, h1.lit_inv, Op.unary]

theorem Yp.neg {o : Oper} {g : Nat → V} {H : List O} {t : TypeId} {x : Operand} {k : IntKind} {a : Int} (ho : o.op = .unOp .neg t x) (hx : evO g x = .d (.lit (.int k a))) : Yp P o g H (.d (.lit (.int k (k.wrap (0 - a))))) := by
  intro F M w ρ hi hrep
  have h1 := hrep x
  rw [hx] at h1
  refine ⟨_, ?_, .lit _⟩
  simp [execOp, ho, h1.lit_inv, Op.unary, Op.intArith]

theorem Yp.convInt {o : Oper} {g : Nat → V} {H : List O} {s t : TypeId} {x : Operand} {d : TypeDesc} {k k' : IntKind} {a : Int} (ho : o.op = .convert s t x) (hs : P.underlying s = some d) (ht : P.underlying t = some (.int k'))
    (hx : evO g x = .d (.lit (.int k a))) : Yp P o g H (.d (.lit (.int k' (k'.wrap a)))) := by
  intro F M w ρ hi hrep
  have h1 := hrep x
  rw [hx] at h1
  refine ⟨_, ?_, .lit _⟩
  simp [execOp, ho, h1.lit_inv, convert, run_underlying hs, run_underlying ht, Conv.intToInt]

def maxInts : Int → List Int → Int
  | a, [] => a
  | a, b :: l => maxInts (if b > a then b else a) l

theorem Yp.max2 {o : Oper} {g : Nat → V} {H : List O} {x y : Operand} {ts : Array TypeId} {k : IntKind} {a b : Int} (ho : o.op = .call { callee := .builtin .max, args := #[x, y], argTypes := ts })
    (hx : evO g x = .d (.lit (.int k a))) (hy : evO g y = .d (.lit (.int k b))) : Yp P o g H (.d (.lit (.int k (if b > a then b else a)))) := by
  intro F M w ρ hi hrep
  have h1 := hrep x; have h2 := hrep y
  rw [hx] at h1; rw [hy] at h2
  refine ⟨_, ?_, .lit _⟩
  simp [execOp, ho, resolve, invoke, builtin, Builtin.max_, h1.lit_inv, h2.lit_inv, Builtin.max2]

theorem Yp.min2 {o : Oper} {g : Nat → V} {H : List O} {x y : Operand} {ts : Array TypeId} {k : IntKind} {a b : Int} (ho : o.op = .call { callee := .builtin .min, args := #[x, y], argTypes := ts })
    (hx : evO g x = .d (.lit (.int k a))) (hy : evO g y = .d (.lit (.int k b))) : Yp P o g H (.d (.lit (.int k (if b < a then b else a)))) := by
  intro F M w ρ hi hrep
  have h1 := hrep x; have h2 := hrep y
  rw [hx] at h1; rw [hy] at h2
  refine ⟨_, ?_, .lit _⟩
  simp [execOp, ho, resolve, invoke, builtin, Builtin.min_, h1.lit_inv, h2.lit_inv, Builtin.min2]

/-! ### Slicing -/
theorem Yp.sliceStr {o : Oper} {g : Nat → V} {H : List O} {t : TypeId} {x : Operand} {lo hi : Option Operand} {s : ByteArray} {l h : Nat} (ho : o.op = .slice t x lo hi none) (ht : P.underlying t = some .string)
    (hx : evO g x = .d (.lit (.string s))) (hl : match lo with | some y => ∃ k, evO g y = .d (.lit (.int k (l : Int))) | none => l = 0)
    (hh : match hi with | some y => ∃ k, evO g y = .d (.lit (.int k (h : Int))) | none => h = s.size) (h1 : l ≤ h) (h2 : h ≤ s.size) : Yp P o g H (.d (.lit (.string (s.extract l h)))) := by
  intro F M w ρ hi' hrep
  have e1 := hrep x
  rw [hx] at e1
  have hbd : s.size ≤ 4611686018427387904 := by
    have e0 := e1
    generalize ρ x = v at e0
    cases e0 with
    | d e0 => cases e0 with | lit _ h => simpa [litOk] using h
  refine ⟨_, ?_, .lit _ (by simp [litOk]; omega)⟩
  have e1 := e1.lit_inv
  cases lo <;> cases hi <;> simp only at hl hh
  · subst hl; subst hh
    simp [execOp, ho, Instr.sliceAt, Instr.slice, run_underlying ht, e1, Instr.sliceBounds]
  · rename_i y
    obtain ⟨k, hk⟩ := hh
    subst hl
    have e2 := hrep y
    rw [hk] at e2
    have h2' : (h : Int) ≤ (s.size : Int) := by omega
    simp [execOp, ho, Instr.sliceAt, Instr.slice, run_underlying ht, e1, e2.lit_inv, Instr.sliceBounds, Instr.sliceBound, asIntOf, h2]
  · rename_i y
    obtain ⟨k, hk⟩ := hl
    subst hh
    have e2 := hrep y
    rw [hk] at e2
    simp [execOp, ho, Instr.sliceAt, Instr.slice, run_underlying ht, e1, e2.lit_inv, Instr.sliceBounds, Instr.sliceBound, asIntOf, h1]
  · rename_i y z
    obtain ⟨k, hk⟩ := hl
    obtain ⟨k', hk'⟩ := hh
    have e2 := hrep y
    rw [hk] at e2
    have e3 := hrep z
    rw [hk'] at e3
    simp [execOp, ho, Instr.sliceAt, Instr.slice, run_underlying ht, e1, e2.lit_inv, e3.lit_inv, Instr.sliceBounds, Instr.sliceBound, asIntOf, h1, h2]
end
end Go.Ab

set_option linter.unusedVariables false
set_option linter.unusedSimpArgs false
namespace Go.Ab
section
variable {P : Program}

/-! ### From a body to a contract -/
def resF (tmps : Array Value) (x : ResultVar) : Sem Value :=
  match x with
  | .tmp t => pure (tmps.getD t undef)
  | .cell a t => do loadVar t (← asAddr (tmps.getD a undef))

theorem results_eq (fn : Func) (tmps : Array Value) : results fn tmps = (do let vs ← fn.results.mapM (resF tmps); pure (if h : vs.size = 1 then vs[0] else .tuple vs)) := rfl

theorem run_arr_mapM {α : Type} (f : α → Sem Value) (arr : Array α) (vs : List Value) (w : World) (h : (arr.toList.mapM f).run P w = .ok vs w) : (arr.mapM f).run P w = .ok vs.toArray w := by
  rw [Array.mapM_eq_mapM_toList]; simp [h]

theorem resV_sound {F : Mem} {M : Pls} {a : Act} {w : World} {s : St} {x : ResultVar} {r : V} (rel : RelSt F M a w s) (h : ResV P s x r) :
    ∃ v, (resF a.tmps x).run P w = .ok v w ∧ Rep F M v r := by
  cases h with
  | tmp t => exact ⟨a.tmps.getD t undef, by simp [resF], rel.tmps t⟩
  | @cell t ty agg n r ht h =>
    obtain ⟨ad, u, hv, hrun, hu⟩ := loadA_sound rel.inv (rel.tmps t) ht h
    refine ⟨u, ?_, hu⟩
    simp only [resF, hv, asAddr, Sem.run_bind, Sem.run_pure, Result.andThen_ok, hrun]

theorem resL_sound {F : Mem} {M : Pls} {a : Act} {w : World} {s : St} (rel : RelSt F M a w s) : ∀ {l : List ResultVar} {rs : List V}, ResL P s l rs →
    ∃ vs : List Value, (l.mapM (resF a.tmps)).run P w = .ok vs w ∧
      vs.length = rs.length ∧ ∀ j, j < rs.length → Rep F M (vs.getD j undef) (rs.getD j .any)
  | _, _, .nil => ⟨[], by simp, rfl, fun j hj => by simp at hj⟩
  | _, _, .cons h k => by
    obtain ⟨v, hv, hr⟩ := resV_sound rel h
    obtain ⟨vs, hvs, hl, hrs⟩ := resL_sound rel k
    refine ⟨v :: vs, ?_, by simp [hl], fun j hj => ?_⟩
    · simp only [List.mapM_cons, Sem.run_bind, hv, Result.andThen_ok, hvs, Sem.run_pure]
    · cases j with
      | zero => exact hr
      | succ j => simp at hj; simpa using hrs j hj

theorem results_sound {F : Mem} {M : Pls} {a : Act} {w : World} {s : St} {fn : Func} {rs : List V} (rel : RelSt F M a w s) (h : ResL P s fn.results.toList rs) :
    ∃ v, (results fn a.tmps).run P w = .ok v w ∧ Rep F M v (tupV rs) := by
  obtain ⟨vs, hrun, hl, hr⟩ := resL_sound rel h
  have hm := run_arr_mapM (P := P) _ fn.results vs w hrun
  rw [results_eq]
  simp only [Sem.run_bind, hm, Result.andThen_ok, Sem.run_pure]
  refine ⟨_, rfl, ?_⟩
  match rs, hl, hr with
  | [x], hl, hr =>
    obtain ⟨v, rfl⟩ := List.length_eq_one_iff.1 hl
    exact hr 0 (by simp)
  | [], hl, hr =>
    have : vs = [] := List.eq_nil_of_length_eq_zero hl
    subst this
    exact .tup #[] [] rfl (fun j hj => by simp at hj)
  | x :: y :: rs, hl, hr =>
    rw [dif_neg (by simp; simp at hl; omega)]
    refine .tup _ _ (by simpa using hl) fun j hj => ?_
    have := hr j hj
    simpa [List.getD_eq_getElem?_getD, Array.getD_eq_getD_getElem?] using this

/-- What a body must show. -/
def RetS (P : Program) (fn : Func) (Q : V → List O → Prop) : Exit → St → Prop
  | .normal, s => ∃ rs, ResL P s fn.results.toList rs ∧ Q (tupV rs) s.hp
  | .ret, s => ∃ rs, ResL P s fn.results.toList rs ∧ Q (tupV rs) s.hp
  | _, _ => False

theorem SCall.of_exec {k : FuncId} {fn : Func} {c : Code} {args : List V} {H : List O} {Q : V → List O → Prop} (hf : P.funcs[k]? = some fn) (hb : fn.body = some c) (hn : (fn.name == "runtime.NumGoroutine") = false)
    (h : SExec P c (initSt fn.ntmps args H) (RetS P fn Q)) : SCall P k args H Q := by
  refine ⟨enters_of hf hb hn, fun F M w vals hi hr => ?_⟩
  refine calls_of_wp hf hb ?_
  have rel : RelSt F M { tmps := vals.toArray ++ Array.replicate (fn.ntmps - vals.toArray.size) undef, defers := [] } w (initSt fn.ntmps args H) := by
    refine ⟨rfl, by simp [initSt, hr.1], hi, fun t => ?_⟩
    show Rep F M _ (getT t (initTm 0 args))
    rw [getT_init]
    simp only [Nat.zero_le, if_true, Nat.sub_zero]
    by_cases ht : t < args.length
    · have := hr.2 t ht
      have ht' : t < vals.length := by rw [hr.1]; exact ht
      have e : (vals.toArray ++ Array.replicate (fn.ntmps - vals.toArray.size) undef).getD t undef = vals.getD t undef := by
        simp [Array.getD_eq_getD_getElem?, List.getD_eq_getElem?_getD, Array.getElem?_append, ht']
      rw [e]; exact this
    · have e : args.getD t .any = .any := by simp [List.getD_eq_getElem?_getD, List.getElem?_eq_none (Nat.le_of_not_lt ht)]
      rw [e]; exact .any _
  refine wp_mono (h F M w _ rel) ?_
  rintro e a' w' ⟨s', F', M', q, rel', x⟩
  cases e with
  | normal =>
    obtain ⟨rs, hres, hq⟩ := q
    obtain ⟨v, hrun, hv⟩ := results_sound rel' hres
    exact ⟨rel'.defers, v, hrun, v, _, _, F', M', rfl, hq, hv, rel'.inv, x⟩
  | ret =>
    obtain ⟨rs, hres, hq⟩ := q
    obtain ⟨v, hrun, hv⟩ := results_sound rel' hres
    exact ⟨rel'.defers, v, hrun, v, _, _, F', M', rfl, hq, hv, rel'.inv, x⟩
  | exit id => exact q.elim
  | goto l => exact q.elim
  | panic ch => exact q.elim
  | outgrown => exact q.elim

/-! ### Answers that are data: what the call made for itself is let go -/
mutual
def V.pure : V → Bool
  | .d _ => true
  | .rp _ => true
  | .xs _ => true
  | .agg cs => pures cs
  | .tup cs => pures cs
  | .fn _ a c => pures a && pures c
  | .any => true
  | _ => false
def pures : List V → Bool
  | [] => true
  | x :: l => x.pure && pures l
end

theorem pures_getD : ∀ {l : List V} {j : Nat}, pures l = true → j < l.length → (l.getD j .any).pure = true
  | x :: l, 0, h, _ => by simp [pures] at h; exact h.1
  | x :: l, j + 1, h, hj => by simp [pures] at h; simp at hj; simpa using pures_getD h.2 hj

theorem Rep.pure {F : Mem} {M : Pls} {v : Value} {x : V} (h : Rep F M v x) (M' : Pls) : x.pure = true → Rep F M' v x := by
  induction h with
  | any v => exact fun _ => .any v
  | d h => exact fun _ => .d h
  | gs => intro h; simp [V.pure] at h
  | bx => intro h; simp [V.pure] at h
  | rp a cells vals hf hr => exact fun _ => .rp a cells vals hf hr
  | xs h => exact fun _ => .xs h
  | hs => intro h; simp [V.pure] at h
  | agg cs cells hs hr ih =>
    intro h
    simp [V.pure] at h
    exact .agg cs cells hs fun j hj => ih j hj (pures_getD h hj)
  | fn f a c first captured ha hc hra hrc iha ihc =>
    intro h
    simp [V.pure] at h
    exact .fn f a c first captured ha hc (fun j hj => iha j hj (pures_getD h.1 hj)) (fun j hj => ihc j hj (pures_getD h.2 hj))
  | tup cs cells hs hr ih =>
    intro h
    simp [V.pure] at h
    exact .tup cs cells hs fun j hj => ih j hj (pures_getD h hj)

/-- The call answers r, and leaves what is there as it is. -/
structure HCall (P : Program) (k : FuncId) (args : List V) (H : List O) (r : V) : Prop where
  call : SCall P k args H (fun r' H' => r' = r ∧ H' = H)
  pure : r.pure = true

/-- A function of data. -/
structure PCall (P : Program) (k : FuncId) (args : List V) (r : V) : Prop where
  pure : r.pure = true
  argsPure : pures args = true
  call : SCall P k args [] (fun r' _ => r' = r)

theorem Inv.drop {F : Mem} {M : Pls} {w : World} {H : List O} (hi : Inv F M w H) : Inv F [] w [] :=
  ⟨hi.cells, rfl, fun i o p h => by simp at h, fun i j o o' p p' b _ h => by simp at h, fun i p b h => by simp at h, hi.gnd⟩

/-- From the world as seen without the call's own things, back. -/
theorem Inv.back {F F' : Mem} {M M' : Pls} {w w' : World} {H H' : List O} (hi : Inv F M w H) (hi' : Inv F' M' w' H') (x : Ext F [] w F' M' w') : Inv F' M w' H ∧ Ext F M w F' M w' := by
  have hb : ∀ b, b < w.heap.size → w'.heap[b]? = w.heap[b]? := fun b hb => x.old b hb (fun i p h => by simp at h)
  have hn : ∀ b, b < w.heap.size → ∀ o s, F ⟨b, o, s⟩ = none → F' ⟨b, o, s⟩ = none := fun b hb o s h => by
    cases h' : F' ⟨b, o, s⟩ with
    | none => rfl
    | some v =>
      rcases x.newF _ h (by rw [h']; simp) with h1 | ⟨i, p, h1, _⟩
      · simp at h1; omega
      · simp at h1
  refine ⟨⟨hi'.cells, hi.len, fun i o p h1 h2 => (hi.objs i o p h1 h2).mono x.fle (.refl _) (fun b e => hb b (hi.inb i p b h2 e)) (fun b e => hn b (hi.inb i p b h2 e)), hi.sep,
    fun i p b h e => Nat.lt_of_lt_of_le (hi.inb i p b h e) x.size, hi'.gnd⟩, ⟨x.fle, .refl _, x.size, x.os, x.tape, x.output, fun k hk _ => hb k hk, fun a h h' => ?_, fun i p b h e => .inr ⟨i, p, h, e⟩⟩⟩
  rcases x.newF a h h' with h1 | ⟨i, p, h1, _⟩
  · exact .inl h1
  · simp at h1

theorem PCall.hcall {k : FuncId} {args : List V} {r : V} (h : PCall P k args r) (H : List O) : HCall P k args H r := by
  obtain ⟨hp, ha, ⟨he, hc⟩⟩ := h
  refine ⟨⟨he, fun F M w vals hi hr => ?_⟩, hp⟩
  refine (hc F [] w vals hi.drop ⟨hr.1, fun j hj => (hr.2 j hj).pure [] (pures_getD ha hj)⟩).mono ?_
  rintro e w' ⟨v, r', H', F', M', rfl, rfl, hv, hi', x⟩
  obtain ⟨h1, h2⟩ := hi.back hi' x
  exact ⟨v, r', H, F', M, rfl, ⟨rfl, rfl⟩, hv.pure M hp, h1, h2⟩

theorem SOp.call_h {o : Oper} {s : St} {K : St → Prop} {f : Operand} {args : Array Operand} {ats : Array TypeId} {k : FuncId} {first captured : List V} {r : V}
    (ho : o.op = .call { callee := .value f, args := args, argTypes := ats }) (hf : s.ev f = .fn (.func k) first captured)
    (h : HCall P k (first ++ args.toList.map s.ev ++ captured) s.hp r) (hk : K (s.put o.dst r)) : SOp P o s K :=
  SOp.call ho hf (h.1.mono fun r' H' ⟨e1, e2⟩ => by subst e1; subst e2; exact hk)
end
end Go.Ab

set_option linter.unusedVariables false
set_option linter.unusedSimpArgs false
namespace Go.Ab
section
variable {P : Program}

def setsV (cells : List V) (off : Nat) (vs : List V) : List V := cells.take off ++ vs ++ cells.drop (off + vs.length)

theorem setsV_length {cells vs : List V} {off : Nat} (h : off + vs.length ≤ cells.length) : (setsV cells off vs).length = cells.length := by
  simp [setsV]; omega

theorem getD_sets {α : Type} (c vs : List α) (off j : Nat) (d : α) (h : off + vs.length ≤ c.length) :
    (c.take off ++ vs ++ c.drop (off + vs.length)).getD j d = if off ≤ j ∧ j < off + vs.length then vs.getD (j - off) d else c.getD j d := by
  simp only [List.getD_eq_getElem?_getD]
  have e1 : (c.take off).length = off := by simp; omega
  have e2 : (c.take off ++ vs).length = off + vs.length := by simp; omega
  by_cases h1 : j < off
  · rw [if_neg (by omega), List.append_assoc, List.getElem?_append_left (by omega), List.getElem?_take, if_pos h1]
  · by_cases h2 : j < off + vs.length
    · rw [if_pos (by omega), List.append_assoc, List.getElem?_append_right (by omega), List.getElem?_append_left (by omega), e1]
    · rw [if_neg (by omega), List.getElem?_append_right (by omega), List.getElem?_drop, e2, show off + vs.length + (j - (off + vs.length)) = j by omega]

theorem setRow_cell_other (w : World) (g : Nat) (cs : Array Value) (a : Addr) (h : a.block ≠ g) : (w.setRow g cs).cell? a = w.cell? a :=
  World.cell?_of_block (setRow_other w g a.block cs h)

theorem size_setRow (w : World) (g : Nat) (cs : Array Value) : (w.setRow g cs).heap.size = w.heap.size := by simp [World.setRow]

/-- The i-th thing is turned, in its own block. -/
theorem Inv.turn {F F' : Mem} {M M' : Pls} {w w' : World} {H : List O} (hi : Inv F M w H) {i : Nat} {o o' : O} {p p' : Pl} (hH : H[i]? = some o) (hM : M[i]? = some p) (hlive : o.live = true)
    (hM' : M' = M.set i p') (hle : p.le p') (hF : F.le F') (hcells : ∀ a v, F' a = some v → w'.cell? a = some v) (hs : w.heap.size ≤ w'.heap.size)
    (hb : ∀ b, b < w.heap.size → p.blk ≠ some b → w'.heap[b]? = w.heap[b]?)
    (hn : ∀ b, b < w.heap.size → p.blk ≠ some b → ∀ o s, F ⟨b, o, s⟩ = none → F' ⟨b, o, s⟩ = none)
    (ho : ObjRep F' M' w' o' p') (hp : ∀ b, p'.blk = some b → p.blk = some b ∨ (w.heap.size ≤ b ∧ b < w'.heap.size)) : Inv F' M' w' (H.set i o') := by
  have hil : i < H.length := (List.getElem?_eq_some_iff.1 hH).1
  have hiM : i < M.length := (List.getElem?_eq_some_iff.1 hM).1
  have hmle : Pls.le M M' := by
    intro j q hq
    rw [hM']
    by_cases hj : i = j
    · subst hj
      rw [hM] at hq; cases hq
      exact ⟨p', by simp [hiM], hle⟩
    · exact ⟨q, by rw [List.getElem?_set_ne hj]; exact hq, q.le_refl⟩
  have hblk : ∀ (j : Nat) (q : Pl) (b : Nat), M'[j]? = some q → q.blk = some b → b < w'.heap.size := by
    intro j q b hq e
    rw [hM'] at hq
    by_cases hj : i = j
    · subst hj
      rw [List.getElem?_set_self hiM] at hq; cases hq
      rcases hp b e with h1 | h1
      · exact Nat.lt_of_lt_of_le (hi.inb i p b hM h1) hs
      · exact h1.2
    · rw [List.getElem?_set_ne hj] at hq
      exact Nat.lt_of_lt_of_le (hi.inb j q b hq e) hs
  refine ⟨hcells, by rw [hM']; simp [hi.len], ?_, ?_, hblk, hi.gnd.trans hF⟩
  · intro j o1 p1 h1 h2
    by_cases hj : i = j
    · subst hj
      rw [List.getElem?_set_self hil] at h1; cases h1
      rw [hM', List.getElem?_set_self hiM] at h2; cases h2
      exact ho
    · rw [List.getElem?_set_ne hj] at h1
      rw [hM', List.getElem?_set_ne hj] at h2
      have hor := hi.objs j o1 p1 h1 h2
      by_cases hl : o1.live = true
      · have hne : ∀ b, p1.blk = some b → p.blk ≠ some b := fun b e e' => hi.sep i j o o1 p p1 b hj hH h1 hlive hl hM h2 e' e
        exact hor.mono hF hmle (fun b e => hb b (hi.inb j p1 b h2 e) (hne b e)) (fun b e => hn b (hi.inb j p1 b h2 e) (hne b e))
      · cases o1 with
        | dead => exact .dead _
        | row => simp [O.live] at hl
        | tok => simp [O.live] at hl
  · intro a b o1 o2 p1 p2 c hne h1 h2 l1 l2 m1 m2 e1 e2
    rw [hM'] at m1 m2
    by_cases ha : i = a
    · subst ha
      rw [List.getElem?_set_ne (by exact hne)] at h2 m2
      rw [List.getElem?_set_self hiM] at m1; cases m1
      rcases hp c e1 with h3 | h3
      · exact hi.sep i b o o2 p p2 c hne hH h2 hlive l2 hM m2 h3 e2
      · have := hi.inb b p2 c m2 e2; omega
    · rw [List.getElem?_set_ne ha] at h1 m1
      by_cases hb' : i = b
      · subst hb'
        rw [List.getElem?_set_self hiM] at m2; cases m2
        rcases hp c e2 with h3 | h3
        · exact hi.sep a i o1 o p1 p c hne h1 hH l1 hlive m1 hM e1 h3
        · have := hi.inb a p1 c m1 e1; omega
      · rw [List.getElem?_set_ne hb'] at h2 m2
        exact hi.sep a b o1 o2 p1 p2 c hne h1 h2 l1 l2 m1 m2 e1 e2

theorem Ext.turn {F F' : Mem} {M M' : Pls} {w w' : World} {i : Nat} {p p' : Pl} (hM : M[i]? = some p) (hM' : M' = M.set i p') (hle : p.le p') (hF : F.le F') (hs : w.heap.size ≤ w'.heap.size)
    (hos : w'.os = w.os) (ht : w'.tape = w.tape) (ho : w'.output = w.output)
    (hb : ∀ b, b < w.heap.size → p.blk ≠ some b → w'.heap[b]? = w.heap[b]?)
    (hnF : ∀ a, F a = none → F' a ≠ none → w.heap.size ≤ a.block ∨ p.blk = some a.block)
    (hp : ∀ b, p'.blk = some b → p.blk = some b ∨ w.heap.size ≤ b) : Ext F M w F' M' w' := by
  have hiM : i < M.length := (List.getElem?_eq_some_iff.1 hM).1
  refine ⟨hF, ?_, hs, hos, ht, ho, fun k hk hall => hb k hk (hall i p hM), fun a h h' => ?_, fun j q b hq e => ?_⟩
  · intro j q hq
    rw [hM']
    by_cases hj : i = j
    · subst hj
      rw [hM] at hq; cases hq
      exact ⟨p', by simp [hiM], hle⟩
    · exact ⟨q, by rw [List.getElem?_set_ne hj]; exact hq, q.le_refl⟩
  · rcases hnF a h h' with h1 | h1
    · exact .inl h1
    · exact .inr ⟨i, p, hM, h1⟩
  · rw [hM'] at hq
    by_cases hj : i = j
    · subst hj
      rw [List.getElem?_set_self hiM] at hq; cases hq
      rcases hp b e with h1 | h1
      · exact .inr ⟨i, p, hM, h1⟩
      · exact .inl h1
    · rw [List.getElem?_set_ne hj] at hq
      exact .inr ⟨j, q, hq, e⟩

theorem set_self {α : Type} (l : List α) (i : Nat) (x : α) (h : l[i]? = some x) : l.set i x = l := by
  apply List.ext_getElem?
  intro j
  by_cases hj : i = j
  · subst hj
    have hl := (List.getElem?_eq_some_iff.1 h).1
    rw [List.getElem?_set_self hl, h]
  · rw [List.getElem?_set_ne hj]

theorem store_run {o : Oper} {g : Nat → V} {H : List O} {t ty : TypeId} {a x : Operand} {agg : Bool} {n id off : Nat} {cells : List V} (ho : o.op = .store t a x) (ht : TyIs P t agg n)
    (ha : evO g a = .bx id off) (hH : H[id]? = some (.row ty cells)) (hx : (cellsV (evO g x)).all V.oneC = true) (hn : (cellsV (evO g x)).length = n) (hfit : off + n ≤ cells.length) :
    ∀ F M w (ρ : Operand → Value), Inv F M w H → (∀ x, Rep F M (ρ x) (evO g x)) → ∃ w', (execOp ρ o).run P w = .ok .skip w' ∧ Inv F M w' (H.set id (.row ty (setsV cells off (cellsV (evO g x))))) ∧ Ext F M w F M w' := by
  intro F M w ρ hi hr
  have h1 := hr a
  rw [ha] at h1
  obtain ⟨hs, hrep, hone⟩ := (hr x).cells hx
  generalize hv : ρ a = v at h1
  cases h1 with
  | @bx _ blk _ hM =>
    have hobj := hi.objs id _ _ hH hM
    cases hobj with
    | row _ _ _ c hc hcs hcr hc1 hcF =>
      have hl : (ρ x).cells.toList.length = n := by simp [hs, hn]
      have hst := run_storeCells_at P blk off ty (ρ x).cells.toList 0 c w hc (by rw [hl]; omega) (fun u hu => by
        obtain ⟨j, hj, rfl⟩ := List.mem_iff_getElem.1 hu
        have := hone j (by simp at hj; omega)
        simp at hj
        simpa [Array.getD_eq_getD_getElem?, hj] using this)
      simp only [Nat.add_zero] at hst
      generalize hnew : (c.toList.take off ++ (ρ x).cells.toList ++ c.toList.drop (off + (ρ x).cells.toList.length)).toArray = new at hst
      have hnl : new.size = c.size := by rw [← hnew]; simp; omega
      have hget : ∀ j, new.getD j undef = if off ≤ j ∧ j < off + n then (ρ x).cells.getD (j - off) undef else c.getD j undef := by
        intro j
        have := getD_sets c.toList (ρ x).cells.toList off j undef (by rw [hl]; simp; omega)
        rw [hl] at this
        rw [← hnew]
        simp only [Array.getD_eq_getD_getElem?, List.getElem?_toArray, hl] at *
        simpa [List.getD_eq_getElem?_getD, Array.getD_eq_getD_getElem?] using this
      have hgetV : ∀ j, (setsV cells off (cellsV (evO g x))).getD j .any = if off ≤ j ∧ j < off + n then (cellsV (evO g x)).getD (j - off) .any else cells.getD j .any := by
        intro j
        have := getD_sets cells (cellsV (evO g x)) off j .any (by rw [hn]; omega)
        unfold setsV
        rw [hn] at this ⊢
        exact this
      have hlen := setsV_length (cells := cells) (vs := cellsV (evO g x)) (off := off) (by rw [hn]; exact hfit)
      refine ⟨w.setRow blk new, ?_, ?_, ?_⟩
      · have hsz := tyIs_size ht w
        simp [execOp, ho, Instr.storeAt, Instr.sureAddr, hv, storeVar, hsz, hs, hn, hst]
      · refine hi.turn hH hM rfl (set_self M id _ hM).symm (Pl.le_refl _) (.refl _) ?_ (by rw [size_setRow]; exact Nat.le_refl _) ?_ ?_ ?_ ?_
        · intro a v hF
          rw [setRow_cell_other]
          · exact hi.cells a v hF
          · intro e
            have := hcF a.off a.spot
            rw [← e] at this
            rw [show (⟨a.block, a.off, a.spot⟩ : Addr) = a from rfl, hF] at this
            cases this
        · intro b hb hne
          exact setRow_other w blk b new (fun e => hne (by simp [Pl.blk, e]))
        · intro b hb hne o s h; exact h
        · refine .row ty _ blk new (setRow_heap w blk c new ty (0, 0) hc) (by rw [hlen, hnl]; exact hcs) (fun j hj => ?_) (fun j hj => ?_) hcF
          · rw [hget, hgetV]
            split
            · exact hrep _ (by omega)
            · exact hcr j (by omega)
          · rw [hget]
            split
            · exact hone _ (by omega)
            · exact hc1 j (by omega)
        · intro b e; exact .inl e
      · refine Ext.turn hM (set_self M id _ hM).symm (Pl.le_refl _) (.refl _) (by rw [size_setRow]; exact Nat.le_refl _) rfl rfl rfl ?_ (fun a h h' => absurd h h') (fun b e => .inl e)
        intro b hb hne
        exact setRow_other w blk b new (fun e => hne (by simp [Pl.blk, e]))
theorem Yl.store {o : Oper} {g : Nat → V} {H : List O} {t ty : TypeId} {a x : Operand} {agg : Bool} {n id off : Nat} {cells : List V} (ho : o.op = .store t a x) (ht : TyIs P t agg n)
    (ha : evO g a = .bx id off) (hH : H[id]? = some (.row ty cells)) (hx : (cellsV (evO g x)).all V.oneC = true) (hn : (cellsV (evO g x)).length = n) (hfit : off + n ≤ cells.length) :
    Yl P o g H (.d (.lit undef)) (H.set id (.row ty (setsV cells off (cellsV (evO g x))))) := by
  intro F M w ρ hi hr
  obtain ⟨w', h1, h2, h3⟩ := store_run ho ht ha hH hx hn hfit F M w ρ hi hr
  exact ⟨undef, w', F, M, .inr ⟨h1, rfl⟩, .lit _, h2, h3⟩
end
end Go.Ab

set_option linter.unusedVariables false
set_option linter.unusedSimpArgs false
namespace Go.Ab
section
variable {P : Program}

/-! ### Literals -/
theorem foldl_fill (off : Nat) : ∀ (vs : List Value) (k : Nat) (cs : Array Value), off + k + vs.length ≤ cs.size →
    ((vs.zipIdx k).foldl (fun cs (c, j) => cs.setIfInBounds (off + j) c) cs).size = cs.size ∧
    ∀ j, ((vs.zipIdx k).foldl (fun cs (c, j) => cs.setIfInBounds (off + j) c) cs).getD j undef = if off + k ≤ j ∧ j < off + k + vs.length then vs.getD (j - (off + k)) undef else cs.getD j undef
  | [], k, cs, h => ⟨rfl, fun j => by simp [show ¬ (off + k ≤ j ∧ j < off + k) by omega]⟩
  | v :: vs, k, cs, h => by
    obtain ⟨h1, h2⟩ := foldl_fill off vs (k + 1) (cs.setIfInBounds (off + k) v) (by simp at h ⊢; omega)
    simp only [List.zipIdx_cons, List.foldl_cons]
    refine ⟨by rw [h1]; simp, fun j => ?_⟩
    rw [h2]
    simp only [List.length_cons] at h ⊢
    by_cases e : j = off + k
    · subst e
      rw [if_neg (by omega), if_pos (by omega)]
      simp [Array.getD_eq_getD_getElem?, show off + k < cs.size by omega]
    · by_cases e2 : off + (k + 1) ≤ j ∧ j < off + (k + 1) + vs.length
      · rw [if_pos e2, if_pos (by omega)]
        obtain ⟨m, hm⟩ : ∃ m, j - (off + k) = m + 1 := ⟨j - (off + k) - 1, by omega⟩
        rw [hm, show j - (off + (k + 1)) = m by omega]
        simp
      · rw [if_neg e2, if_neg (by omega)]
        simp [Array.getD_eq_getD_getElem?, Array.getElem?_setIfInBounds, Ne.symm e]

def fillV (place : Nat → Option (Nat × Nat)) (cells : List V) : List (Nat × V) → Option (List V)
  | [] => some cells
  | (i, v) :: rest =>
    match place i with
    | none => none
    | some (off, size) => if (cellsV v).length = size ∧ off + size ≤ cells.length ∧ (cellsV v).all V.oneC = true then fillV place (setsV cells off (cellsV v)) rest else none

def AggRep (F : Mem) (M : Pls) (cs : Array Value) (cells : List V) : Prop :=
  cs.size = cells.length ∧ (∀ j, j < cells.length → Rep F M (cs.getD j undef) (cells.getD j .any)) ∧ (∀ j, j < cells.length → (cs.getD j undef).oneCell' = true)

theorem fill_sound {F : Mem} {M : Pls} (place : Nat → Option (Nat × Nat)) : ∀ (parts : List (Nat × Value)) (ps : List (Nat × V)) (cs : Array Value) (cells r : List V),
    parts.length = ps.length → (∀ j, j < ps.length → (parts.getD j (0, undef)).1 = (ps.getD j (0, .any)).1 ∧ Rep F M (parts.getD j (0, undef)).2 (ps.getD j (0, .any)).2) →
    AggRep F M cs cells → fillV place cells ps = some r → ∃ u, Instr.fill place cs parts = some u ∧ AggRep F M u r
  | [], [], cs, cells, r, _, _, hc, h => by simp [fillV] at h; subst h; exact ⟨cs, rfl, hc⟩
  | [], p :: ps, _, _, _, hl, _, _, _ => by simp at hl
  | p :: parts, [], _, _, _, hl, _, _, _ => by simp at hl
  | (i, v) :: parts, (i', x) :: ps, cs, cells, r, hl, hp, hc, h => by
    have h0 := hp 0 (by simp)
    simp at h0
    obtain ⟨rfl, hv⟩ := h0
    simp only [fillV] at h
    cases hpl : place i with
    | none => simp [hpl] at h
    | some os =>
      obtain ⟨off, size⟩ := os
      simp only [hpl] at h
      split at h
      · rename_i hcond
        obtain ⟨e1, e2, e3⟩ := hcond
        obtain ⟨s1, s2, s3⟩ := hv.cells e3
        have hsz : v.cells.size = size := s1.trans e1
        obtain ⟨c1, c2, c3⟩ := hc
        have hfold := foldl_fill off v.cells.toList 0 cs (by simp; omega)
        simp only [Nat.add_zero, Array.length_toList] at hfold
        have hnew : AggRep F M (v.cells.zipIdx.foldl (fun cs (c, j) => cs.setIfInBounds (off + j) c) cs) (setsV cells off (cellsV x)) := by
          have efold : v.cells.zipIdx.foldl (fun cs (c, j) => cs.setIfInBounds (off + j) c) cs = (v.cells.toList.zipIdx 0).foldl (fun cs (c, j) => cs.setIfInBounds (off + j) c) cs := by
            rw [← Array.foldl_toList]; simp
          rw [efold]
          have hlen := setsV_length (cells := cells) (vs := cellsV x) (off := off) (by omega)
          have hget : ∀ j, (setsV cells off (cellsV x)).getD j .any = if off ≤ j ∧ j < off + size then (cellsV x).getD (j - off) .any else cells.getD j .any := by
            intro j
            have := getD_sets cells (cellsV x) off j .any (by omega)
            unfold setsV
            rw [e1] at this ⊢
            exact this
          refine ⟨by rw [hfold.1, hlen]; exact c1, fun j hj => ?_, fun j hj => ?_⟩
          · rw [hfold.2, hget, hsz]
            split
            · have := s2 (j - off) (by omega)
              simpa [List.getD_eq_getElem?_getD, Array.getD_eq_getD_getElem?] using this
            · exact c2 j (by omega)
          · rw [hfold.2, hsz]
            split
            · have := s3 (j - off) (by omega)
              simpa [List.getD_eq_getElem?_getD, Array.getD_eq_getD_getElem?] using this
            · exact c3 j (by omega)
        obtain ⟨u, hu, hr⟩ := fill_sound place parts ps _ _ r (by simpa using hl) (fun j hj => by simpa using hp (j + 1) (by simpa using hj)) hnew h
        refine ⟨u, ?_, hr⟩
        simp only [Instr.fill, hpl]
        rw [if_neg (by simp [hsz]; omega)]
        exact hu
      · cases h

/-- A struct's places. -/
def placesOf (P : Program) (t : TypeId) : Option (List (Nat × Nat)) :=
  match P.underlying t with
  | some (.struct fs) => fs.toList.mapM (fun f => (P.info? f.type).map fun i => (f.offset, i.size))
  | _ => none

theorem aggRep_zero {F : Mem} {M : Pls} (v : Value) (h : (cellsV (ofC v)).all V.oneC = true) : AggRep F M v.cells (cellsV (ofC v)) :=
  (rep_ofC F M v).cells h

theorem parts_rep {F : Mem} {M : Pls} {g : Nat → V} {ρ : Operand → Value} (hr : ∀ x, Rep F M (ρ x) (evO g x)) (parts : Array (Nat × Operand)) :
    ((parts.map fun (i, x) => (i, ρ x)).toList).length = (parts.toList.map fun (i, x) => (i, evO g x)).length ∧
    ∀ j, j < (parts.toList.map fun (i, x) => (i, evO g x)).length → (((parts.map fun (i, x) => (i, ρ x)).toList).getD j (0, undef)).1 = ((parts.toList.map fun (i, x) => (i, evO g x)).getD j (0, .any)).1 ∧
      Rep F M (((parts.map fun (i, x) => (i, ρ x)).toList).getD j (0, undef)).2 ((parts.toList.map fun (i, x) => (i, evO g x)).getD j (0, .any)).2 := by
  refine ⟨by simp, fun j hj => ?_⟩
  simp at hj
  simp [List.getD_eq_getElem?_getD, hj]
  exact hr _

theorem Yp.buildStruct {o : Oper} {g : Nat → V} {H : List O} {t : TypeId} {parts : Array (Nat × Operand)} {z : V} {pl : List (Nat × Nat)} {r : List V} (ho : o.op = .build t parts) (hz : zeroV P t = some z) (hzo : (cellsV z).all V.oneC = true)
    (hp : placesOf P t = some pl) (hf : fillV (fun i => pl.toArray[i]?) (cellsV z) (parts.toList.map fun (i, x) => (i, evO g x)) = some r) : Yp P o g H (.agg r) := by
  intro F M w ρ hi hr
  obtain ⟨z', hz', rfl⟩ : ∃ z', ((P.info? t).bind (·.zero)) = some z' ∧ z = ofC z' := by
    unfold zeroV at hz
    cases h : (P.info? t).bind (·.zero) with
    | none => simp [h] at hz
    | some z' => simp [h] at hz; exact ⟨z', rfl, hz.symm⟩
  obtain ⟨p1, p2⟩ := parts_rep hr parts
  obtain ⟨u, hu, hru⟩ := fill_sound (F := F) (M := M) _ _ _ _ _ r p1 p2 (aggRep_zero z' hzo) hf
  refine ⟨.agg u, ?_, .agg u r hru.1 hru.2.1⟩
  have hb : P.built t (parts.map fun (i, x) => (i, ρ x)).toList = some u := by
    unfold placesOf at hp
    unfold Program.built
    cases hit : P.info? t with
    | none => simp [hit] at hz'
    | some it =>
      simp [hit] at hz'
      cases hU : P.underlying t with
      | none => simp [hU] at hp
      | some d =>
        cases d <;> simp [hU] at hp
        simp only [hz', hp]
        exact hu
  have := run_build (P := P) w t _ u hb
  simp [execOp, ho, this]

theorem Yp.buildArr {o : Oper} {g : Nat → V} {H : List O} {t e : TypeId} {len : Nat} {agg : Bool} {n : Nat} {parts : Array (Nat × Operand)} {z : V} {r : List V} (ho : o.op = .build t parts) (hz : zeroV P t = some z) (hzo : (cellsV z).all V.oneC = true)
    (ht : P.underlying t = some (.array len e)) (he : TyIs P e agg n) (hf : fillV (fun i => some (i * n, n)) (cellsV z) (parts.toList.map fun (i, x) => (i, evO g x)) = some r) : Yp P o g H (.agg r) := by
  intro F M w ρ hi hr
  obtain ⟨z', hz', rfl⟩ : ∃ z', ((P.info? t).bind (·.zero)) = some z' ∧ z = ofC z' := by
    unfold zeroV at hz
    cases h : (P.info? t).bind (·.zero) with
    | none => simp [h] at hz
    | some z' => simp [h] at hz; exact ⟨z', rfl, hz.symm⟩
  obtain ⟨p1, p2⟩ := parts_rep hr parts
  obtain ⟨u, hu, hru⟩ := fill_sound (F := F) (M := M) _ _ _ _ _ r p1 p2 (aggRep_zero z' hzo) hf
  refine ⟨.agg u, ?_, .agg u r hru.1 hru.2.1⟩
  have hb : P.built t (parts.map fun (i, x) => (i, ρ x)).toList = some u := by
    unfold Program.built
    cases hit : P.info? t with
    | none => simp [hit] at hz'
    | some it =>
      simp [hit] at hz'
      cases hie : P.info? e with
      | none => have := he.2; simp [hie] at this
      | some ie =>
        have hsz : ie.size = n := by have := he.2; simpa [hie] using this
        have hu' : Instr.fill (fun i => some (i * ie.size, ie.size)) z'.cells (parts.map fun (i, x) => (i, ρ x)).toList = some u := by rw [hsz]; exact hu
        simp only [ht, hz', hie]
        exact hu'
  have := run_build (P := P) w t _ u hb
  simp [execOp, ho, this]

/-! ### A new array that no longer changes -/
def toD : V → Option D
  | .d x => some x
  | .gs _ rows => some (.sl rows)
  | .xs rows => some (.sl rows)
  | _ => none

theorem toD_sound {F : Mem} {M : Pls} {v : Value} {x : V} {y : D} (h : Rep F M v x) (hx : toD x = some y) : RepD F v y := by
  cases h with
  | d h => simp [toD] at hx; subst hx; exact h
  | gs h => simp [toD] at hx; subst hx; exact h
  | xs h => simp [toD] at hx; subst hx; exact h
  | _ => simp [toD] at hx

def withBlock (F : Mem) (b n : Nat) (f : Nat → Value) : Mem := fun a => if a.block = b ∧ a.spot = none ∧ a.off < n then some (f a.off) else F a

theorem withBlock_le {F : Mem} {b n : Nat} {f : Nat → Value} (h : ∀ o s, F ⟨b, o, s⟩ = none) : F.le (withBlock F b n f) := by
  intro a v ha
  unfold withBlock
  rw [if_neg]
  · exact ha
  · rintro ⟨rfl, _, _⟩
    rw [h a.off a.spot] at ha
    cases ha

theorem withBlock_at (F : Mem) (b n k : Nat) (f : Nat → Value) (h : k < n) : withBlock F b n f ⟨b, k, none⟩ = some (f k) := by
  simp [withBlock, h]

theorem withBlock_other (F : Mem) (b n : Nat) (f : Nat → Value) (a : Addr) (h : a.block ≠ b) : withBlock F b n f a = F a := by
  simp [withBlock, h]

theorem freeze_new {F : Mem} {M : Pls} {w : World} {H : List O} (hi : Inv F M w H) (c : Array Value) (ty n : Nat) (hn : n ≤ c.size) :
    Inv (withBlock F w.heap.size n (fun k => c.getD k undef)) M (w.alloc (.cells c ty)) H ∧ Ext F M w (withBlock F w.heap.size n (fun k => c.getD k undef)) M (w.alloc (.cells c ty)) := by
  have hle : F.le (withBlock F w.heap.size n (fun k => c.getD k undef)) := withBlock_le (F_new hi)
  have hoth : ∀ b, b < w.heap.size → ∀ o s, F ⟨b, o, s⟩ = none → withBlock F w.heap.size n (fun k => c.getD k undef) ⟨b, o, s⟩ = none := fun b hb o s h => by
    rw [withBlock_other _ _ _ _ _ (by simp; omega)]; exact h
  refine ⟨⟨fun a v h => ?_, hi.len, fun i o p h1 h2 => (hi.objs i o p h1 h2).mono hle (.refl _) (fun b e => heap_push_old w _ b (hi.inb i p b h2 e)) (fun b e => hoth b (hi.inb i p b h2 e)), hi.sep,
    fun i p b h e => by have := hi.inb i p b h e; simp; omega, hi.gnd.trans hle⟩,
    ⟨hle, .refl _, by simp, rfl, rfl, rfl, fun k hk _ => heap_push_old w _ k hk, fun a h h' => ?_, fun i p b h e => .inr ⟨i, p, h, e⟩⟩⟩
  · unfold withBlock at h
    split at h
    · rename_i hc
      obtain ⟨h1, h2, h3⟩ := hc
      cases h
      have : a = ⟨w.heap.size, a.off, none⟩ := by cases a; simp_all
      rw [this, World.cell?_alloc_new]
      simp [Array.getD_eq_getD_getElem?, show a.off < c.size by omega]
    · exact cell_alloc w _ (hi.cells a v h)
  · by_cases hb : a.block = w.heap.size
    · exact .inl (by omega)
    · rw [withBlock_other _ _ _ _ _ hb] at h'
      exact absurd h h'

def chunk (n : Nat) : Nat → List D → List (List D)
  | 0, _ => []
  | k + 1, l => l.take n :: chunk n k (l.drop n)

theorem chunk_length (n : Nat) : ∀ k l, (chunk n k l).length = k
  | 0, _ => rfl
  | k + 1, l => by simp [chunk, chunk_length n k]
theorem chunk_row (n : Nat) : ∀ (k : Nat) (l : List D), k * n ≤ l.length → ∀ r ∈ chunk n k l, r.length = n
  | 0, _, _, r, h => by simp [chunk] at h
  | k + 1, l, hl, r, h => by
    rw [Nat.add_mul] at hl
    simp [chunk] at h
    rcases h with rfl | h
    · simp; omega
    · exact chunk_row n k _ (by simp; omega) r h
theorem chunk_get (n : Nat) : ∀ (k : Nat) (l : List D) (i j : Nat), i < k → j < n → k * n ≤ l.length → ((chunk n k l).getD i []).getD j default = l.getD (i * n + j) default
  | k + 1, l, 0, j, _, hj, _ => by
    simp [chunk, List.getD_eq_getElem?_getD, List.getElem?_take, hj]
  | k + 1, l, i + 1, j, hi, hj, hl => by
    rw [Nat.add_mul] at hl
    simp only [chunk, List.getD_cons_succ]
    rw [chunk_get n k (l.drop n) i j (by omega) hj (by simp; omega)]
    simp [List.getD_eq_getElem?_getD]
    congr 2
    rw [Nat.add_mul]; omega

theorem mapM_toD {F : Mem} {M : Pls} : ∀ {cells : List V} {ds : List D} {f : Nat → Value}, cells.mapM toD = some ds → (∀ j, j < cells.length → Rep F M (f j) (cells.getD j .any)) →
    ds.length = cells.length ∧ ∀ j, j < ds.length → RepD F (f j) (ds.getD j default)
  | [], ds, f, h, _ => by simp at h; subst h; exact ⟨rfl, fun j hj => by simp at hj⟩
  | x :: cells, ds, f, h, hr => by
    simp only [List.mapM_cons, Option.bind_eq_bind, Option.pure_def] at h
    cases hx : toD x with
    | none => simp [hx] at h
    | some y =>
      cases hm : cells.mapM toD with
      | none => simp [hx, hm] at h
      | some ys =>
        simp [hx, hm] at h
        subst h
        obtain ⟨h1, h2⟩ := mapM_toD (f := fun j => f (j + 1)) hm (fun j hj => by simpa using hr (j + 1) (by simpa using hj))
        refine ⟨by simp [h1], fun j hj => ?_⟩
        cases j with
        | zero => exact toD_sound (hr 0 (by simp)) hx
        | succ j => simpa using h2 j (by simpa using hj)

theorem Yl.buildSlice {o : Oper} {g : Nat → V} {H : List O} {t e : TypeId} {len n : Nat} {agg : Bool} {parts : Array (Nat × Operand)} {z : V} {cells : List V} {ds : List D} (ho : o.op = .buildSlice t len parts)
    (ht : P.underlying t = some (.slice e)) (he : TyIs P e agg n) (hz : zeroV P e = some z) (hzo : (cellsV z).all V.oneC = true) (hzl : (cellsV z).length = n) (hn0 : 0 < len * n) (hbig : len * n ≤ 16777216)
    (hf : fillV (fun i => some (i * n, n)) ((List.range (len * n)).map fun i => (cellsV z).getD (i % n) .any) (parts.toList.map fun (i, x) => (i, evO g x)) = some cells)
    (hd : cells.mapM toD = some ds) (hcl : cells.length = len * n) : Yl P o g H (.xs (chunk n len ds)) H := by
  intro F M w ρ hi hr
  obtain ⟨v, hv, rfl⟩ := zero_run hz
  have hz1 := aggRep_zero (F := F) (M := M) v hzo
  obtain ⟨p1, p2⟩ := parts_rep hr parts
  have hzs : v.cells.size = n := by rw [hz1.1, hzl]
  have hn : 0 < n := by rcases Nat.eq_zero_or_pos n with h | h; · simp [h] at hn0
                        · exact h
  have hstart : AggRep F M ((Array.range (len * n)).map (v.cells[· % v.cells.size]!)) ((List.range (len * n)).map fun i => (cellsV (ofC v)).getD (i % n) .any) := by
    have e1 : ∀ j, j < len * n → ((Array.range (len * n)).map (v.cells[· % v.cells.size]!)).getD j undef = v.cells.getD (j % n) undef := fun j hj => by
      have hm : j % n < v.cells.size := by rw [hzs]; exact Nat.mod_lt _ hn
      have e1 : ((Array.range (len * n)).map (v.cells[· % v.cells.size]!))[j]? = some (v.cells[j % v.cells.size]!) := by
        rw [Array.getElem?_map, Array.getElem?_range, if_pos hj]; rfl
      rw [Array.getD_eq_getD_getElem?, e1, Option.getD_some, hzs, getElem!_pos v.cells (j % n) hm, Array.getD_eq_getD_getElem?, Array.getElem?_eq_getElem hm, Option.getD_some]
    have e2 : ∀ j, j < len * n → ((List.range (len * n)).map fun i => (cellsV (ofC v)).getD (i % n) .any).getD j .any = (cellsV (ofC v)).getD (j % n) .any := fun j hj => by
      simp [List.getD_eq_getElem?_getD, List.getElem?_range hj]
    refine ⟨by simp, fun j hj => ?_, fun j hj => ?_⟩
    · simp at hj
      rw [e1 j hj, e2 j hj]
      exact hz1.2.1 _ (by rw [hzl]; exact Nat.mod_lt _ hn)
    · simp at hj
      rw [e1 j hj]
      exact hz1.2.2 _ (by rw [hzl]; exact Nat.mod_lt _ hn)
  obtain ⟨u, hu, hru⟩ := fill_sound (F := F) (M := M) _ _ _ _ _ cells p1 p2 hstart hf
  have hul : u.size = len * n := by rw [hru.1, hcl]
  obtain ⟨i1, i2⟩ := freeze_new hi u e (len * n) (by omega)
  obtain ⟨d1, d2⟩ := mapM_toD (f := fun j => u.getD j undef) hd hru.2.1
  have hrd : RepD (withBlock F w.heap.size (len * n) (fun k => u.getD k undef)) (.slice (some ⟨w.heap.size, 0, none⟩) len len) (.sl (chunk n len ds)) := by
    have h := RepD.sl (F := withBlock F w.heap.size (len * n) (fun k => u.getD k undef)) (some ⟨w.heap.size, 0, none⟩) len n (chunk n len ds) (fun k => u.getD k undef)
      (chunk_row n len ds (by omega)) (by rw [chunk_length]; have := Nat.le_mul_of_pos_right len hn; simp only [maxRows]; omega) (by rw [chunk_length]; exact Nat.le_refl _)
      (fun _ => ⟨_, rfl, fun k hk => by rw [chunk_length] at hk; rw [add_lit, Nat.zero_add, withBlock_at _ _ _ _ _ hk]⟩)
      (fun i j hi' hj => by
        rw [chunk_length] at hi'
        rw [chunk_get n len ds i j hi' hj (by omega)]
        have hlt : i * n + j < len * n := calc i * n + j < i * n + n := by omega
          _ = (i + 1) * n := by rw [Nat.add_mul]; simp
          _ ≤ len * n := Nat.mul_le_mul_right _ hi'
        exact (d2 _ (by omega)).mono (withBlock_le (F_new hi)))
    rwa [chunk_length] at h
  refine ⟨_, _, _, M, .inl ?_, .xs hrd, i1, i2⟩
  have hsz := tyIs_size he w
  have hzr := hv w
  simp [execOp, ho, Instr.buildSlice, run_underlying ht, hsz, hzr, show ¬ (16777216 < len * n) by omega, show ¬ (len * n = 0) by omega, newRow]
  have hu' : Instr.fill (fun i => some (i * n, n)) (Array.map (fun x => v.cells[x % v.cells.size]!) (Array.range (len * n))) (List.map (fun x => (x.fst, ρ x.snd)) parts.toList) = some u := by simpa using hu
  rw [hu']
  simp
end
end Go.Ab
