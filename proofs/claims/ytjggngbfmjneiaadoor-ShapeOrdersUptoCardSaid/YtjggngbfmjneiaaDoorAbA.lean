import Derived.Lib.DecodeN
import Derived.WalkKit
import Derived.Below
import Derived.Orders
import Derived.Laws.AppendOwn
set_option linter.unusedVariables false
set_option linter.unusedSimpArgs false
namespace Go.Ab

/-- A cell read as data: a value as it stands, or a slice by what it holds (rows of cells). -/
inductive D where
  | lit (v : Value)
  | sl (rows : List (List D))

instance : Inhabited D := ⟨.lit undef⟩

/-- The cells that no longer change. -/
abbrev Mem := Addr → Option Value

theorem add_add (a : Addr) (i j : Nat) : (a.add i).add j = a.add (i + j) := by
  unfold Addr.add
  by_cases hi : i = 0
  · subst hi; simp
  · by_cases hj : j = 0
    · subst hj; simp
    · rw [if_neg hi, if_neg hj, if_neg (by omega)]; simp; omega

@[simp] theorem add_zero (a : Addr) : a.add 0 = a := by unfold Addr.add; simp

/-- A value that a walk may know as it stands (strings up to 2^62). -/
def litOk : Value → Bool
  | .string s => decide (s.size ≤ 4611686018427387904)
  | _ => true

/-- How many elements a slice that is read may have. -/
def maxRows : Nat := 140737488355328

inductive RepD (F : Mem) : Value → D → Prop where
  | lit (v : Value) (h : litOk v = true) : RepD F v (.lit v)
  | sl (a : Option Addr) (cap sz : Nat) (rows : List (List D)) (vals : Nat → Value)
      (hrow : ∀ r ∈ rows, r.length = sz) (hlen : rows.length ≤ maxRows) (hcap : rows.length ≤ cap)
      (ha : 0 < rows.length * sz → ∃ ad, a = some ad ∧ ∀ k, k < rows.length * sz → F (ad.add k) = some (vals k))
      (hr : ∀ i j, i < rows.length → j < sz → RepD F (vals (i * sz + j)) ((rows.getD i []).getD j default)) :
      RepD F (.slice a rows.length cap) (.sl rows)

def Mem.le (F F' : Mem) : Prop := ∀ a v, F a = some v → F' a = some v
theorem Mem.le.refl (F : Mem) : F.le F := fun _ _ h => h
theorem Mem.le.trans {F F' F'' : Mem} (h : F.le F') (k : F'.le F'') : F.le F'' := fun a v e => k a v (h a v e)

theorem RepD.mono {F F' : Mem} (h : F.le F') {v : Value} {x : D} (r : RepD F v x) : RepD F' v x := by
  induction r with
  | lit v h => exact .lit v h
  | sl a cap sz rows vals hrow hlen hcap ha hr ih =>
    exact .sl a cap sz rows vals hrow hlen hcap (fun h0 => let ⟨ad, e, hf⟩ := ha h0; ⟨ad, e, fun k hk => h _ _ (hf k hk)⟩) ih

/-- Values: data, and what is the call's own. -/
inductive V where
  | d (x : D)
  | gs (t : Nat) (rows : List (List D))
  | bx (id off : Nat)
  | rp (cells : List D)
  | xs (rows : List (List D))
  | hs (id off len : Nat)
  | agg (cells : List V)
  | fn (f : Fn) (first captured : List V)
  | tup (vs : List V)
  | any

instance : Inhabited V := ⟨.any⟩

/-- Where a thing of the call's own lies. -/
inductive Pl where
  | row (blk : Nat)
  | tok (hdr : Value) (n : Nat)

def Pl.blk : Pl → Option Nat
  | .row b => some b
  | .tok (.slice (some a) _ _) _ => some a.block
  | .tok _ _ => none

def Pl.le : Pl → Pl → Prop
  | .row b, .row b' => b = b'
  | .tok h n, .tok h' n' => (h = h' ∧ n = n') ∨ n < n'
  | _, _ => False

theorem Pl.le_refl (p : Pl) : p.le p := by cases p <;> simp [Pl.le]
theorem Pl.le_trans {p q r : Pl} (h : p.le q) (k : q.le r) : p.le r := by
  cases p <;> cases q <;> cases r <;> simp only [Pl.le] at * <;> first | (exact h.trans k) | (rcases h with ⟨rfl, rfl⟩ | h <;> rcases k with ⟨rfl, rfl⟩ | k <;> first | exact .inl ⟨rfl, rfl⟩ | exact .inr (by omega)) | exact h.elim | exact k.elim

abbrev Pls := List Pl
def Pls.le (M M' : Pls) : Prop := ∀ (i : Nat) (p : Pl), M[i]? = some p → ∃ p' : Pl, M'[i]? = some p' ∧ p.le p'
theorem Pls.le.refl (M : Pls) : Pls.le M M := fun i p h => ⟨p, h, p.le_refl⟩
theorem Pls.le.trans {M M' M'' : Pls} (h : Pls.le M M') (k : Pls.le M' M'') : Pls.le M M'' := fun i p e =>
  let ⟨p', e', l⟩ := h i p e; let ⟨p'', e'', l'⟩ := k i p' e'; ⟨p'', e'', Pl.le_trans l l'⟩
theorem Pls.le.append (M N : Pls) : Pls.le M (M ++ N) := fun i p h => ⟨p, by
  rw [List.getElem?_append_left (List.getElem?_eq_some_iff.1 h).1]; exact h, p.le_refl⟩

inductive Rep (F : Mem) (M : Pls) : Value → V → Prop where
  | any (v : Value) : Rep F M v .any
  | d {v : Value} {x : D} (h : RepD F v x) : Rep F M v (.d x)
  | gs {v : Value} {t n : Nat} {rows : List (List D)} {hdr : Value} (h : RepD F v (.sl rows)) (ht : M[t]? = some (.tok hdr n))
      (hle : rows.length ≤ n) (hv : rows.length = n → v = hdr) : Rep F M v (.gs t rows)
  | bx {id blk : Nat} (off : Nat) (h : M[id]? = some (.row blk)) : Rep F M (.pointer (some ⟨blk, off, none⟩)) (.bx id off)
  | rp (a : Addr) (cells : List D) (vals : Nat → Value) (hf : ∀ j, j < cells.length → F (a.add j) = some (vals j))
      (hr : ∀ j, j < cells.length → RepD F (vals j) (cells.getD j default)) : Rep F M (.pointer (some a)) (.rp cells)
  | xs {a : Option Addr} {n : Nat} {rows : List (List D)} (h : RepD F (.slice a n n) (.sl rows)) : Rep F M (.slice a n n) (.xs rows)
  | hs {id blk : Nat} (off len cap : Nat) (h : M[id]? = some (.row blk)) (hl : len ≤ maxLen) : Rep F M (.slice (some ⟨blk, off, none⟩) len cap) (.hs id off len)
  | agg (cs : Array Value) (cells : List V) (hs : cs.size = cells.length) (hr : ∀ j, j < cells.length → Rep F M (cs.getD j undef) (cells.getD j .any)) : Rep F M (.agg cs) (.agg cells)
  | fn (f : Fn) (a c : Array Value) (first captured : List V) (ha : a.size = first.length) (hc : c.size = captured.length)
      (hra : ∀ j, j < first.length → Rep F M (a.getD j undef) (first.getD j .any)) (hrc : ∀ j, j < captured.length → Rep F M (c.getD j undef) (captured.getD j .any)) : Rep F M (.func f a c) (.fn f first captured)
  | tup (cs : Array Value) (cells : List V) (hs : cs.size = cells.length) (hr : ∀ j, j < cells.length → Rep F M (cs.getD j undef) (cells.getD j .any)) : Rep F M (.tuple cs) (.tup cells)

theorem Rep.mono {F F' : Mem} {M M' : Pls} (h : F.le F') (k : Pls.le M M') {v : Value} {x : V} (r : Rep F M v x) : Rep F' M' v x := by
  induction r with
  | any v => exact .any v
  | d h0 => exact .d (h0.mono h)
  | gs h0 ht hle hv =>
    obtain ⟨p, hp, hl⟩ := k _ _ ht
    cases p with
    | row b => simp [Pl.le] at hl
    | tok h' n' =>
      rcases hl with ⟨rfl, rfl⟩ | hl
      · exact .gs (h0.mono h) hp hle hv
      · exact .gs (h0.mono h) hp (by omega) (fun e => by omega)
  | bx off h0 =>
    obtain ⟨p, hp, hl⟩ := k _ _ h0
    cases p with
    | row b => simp [Pl.le] at hl; subst hl; exact .bx off hp
    | tok h' n' => simp [Pl.le] at hl
  | rp a cells vals hf hr => exact .rp a cells vals (fun j hj => h _ _ (hf j hj)) (fun j hj => (hr j hj).mono h)
  | xs h0 => exact .xs (h0.mono h)
  | hs off len cap h0 hl' =>
    obtain ⟨p, hp, hl⟩ := k _ _ h0
    cases p with
    | row b => simp [Pl.le] at hl; subst hl; exact .hs off len cap hp hl'
    | tok h' n' => simp [Pl.le] at hl
  | agg cs cells hs hr ih => exact .agg cs cells hs ih
  | fn f a c first captured ha hc hra hrc iha ihc => exact .fn f a c first captured ha hc iha ihc
  | tup cs cells hs hr ih => exact .tup cs cells hs ih

/-! ### The call's own things -/
inductive O where
  | row (ty : TypeId) (cells : List V)
  | tok (ty sz n : Nat)
  | dead

inductive ObjRep (F : Mem) (M : Pls) (w : World) : O → Pl → Prop where
  | row (ty : TypeId) (cells : List V) (blk : Nat) (c : Array Value) (hc : w.heap[blk]? = some (.cells c ty (0, 0))) (hs : c.size = cells.length)
      (hr : ∀ j, j < cells.length → Rep F M (c.getD j undef) (cells.getD j .any)) (h1 : ∀ j, j < cells.length → (c.getD j undef).oneCell' = true)
      (hF : ∀ o s, F ⟨blk, o, s⟩ = none) : ObjRep F M w (.row ty cells) (.row blk)
  | nil (ty sz : Nat) : ObjRep F M w (.tok ty sz 0) (.tok (.slice none 0 0) 0)
  | tok (ty sz n blk cap : Nat) (c : Array Value) (hc : w.heap[blk]? = some (.cells c ty (0, 0))) (hs : c.size = cap * sz) (hn : n ≤ cap) (hcap : cap ≤ maxLen)
      (hpre : ∀ k, k < n * sz → F ⟨blk, k, none⟩ = some (c.getD k undef))
      (hF : ∀ o s, n * sz ≤ o → F ⟨blk, o, s⟩ = none) : ObjRep F M w (.tok ty sz n) (.tok (.slice (some ⟨blk, 0, none⟩) n cap) n)
  | dead (p : Pl) : ObjRep F M w .dead p

def O.live : O → Bool
  | .dead => false
  | _ => true

/-- What lies in the program's own variables and never changes (a seat whose program has tables says which). -/
def groundMem : Mem := fun a => if a.spot = none then (if a.block = 0 then (if a.off < 256 then some (.int .u8 (Lib.firstT a.off)) else none) else if a.block = 1 then (if a.off < 32 then some (.int .u8 (if a.off % 2 = 0 then Lib.accLo (a.off / 2) else Lib.accHi (a.off / 2))) else none) else none) else none

structure Inv (F : Mem) (M : Pls) (w : World) (H : List O) : Prop where
  cells : ∀ a v, F a = some v → w.cell? a = some v
  len : M.length = H.length
  objs : ∀ (i : Nat) (o : O) (p : Pl), H[i]? = some o → M[i]? = some p → ObjRep F M w o p
  sep : ∀ (i j : Nat) (o o' : O) (p p' : Pl) (b : Nat), i ≠ j → H[i]? = some o → H[j]? = some o' → o.live = true → o'.live = true → M[i]? = some p → M[j]? = some p' → p.blk = some b → p'.blk ≠ some b
  inb : ∀ (i : Nat) (p : Pl) (b : Nat), M[i]? = some p → p.blk = some b → b < w.heap.size
  gnd : groundMem.le F

structure Ext (F : Mem) (M : Pls) (w : World) (F' : Mem) (M' : Pls) (w' : World) : Prop where
  fle : F.le F'
  mle : Pls.le M M'
  size : w.heap.size ≤ w'.heap.size
  os : w'.os = w.os
  tape : w'.tape = w.tape
  output : w'.output = w.output
  old : ∀ k, k < w.heap.size → (∀ (i : Nat) (p : Pl), M[i]? = some p → p.blk ≠ some k) → w'.heap[k]? = w.heap[k]?
  newF : ∀ a, F a = none → F' a ≠ none → w.heap.size ≤ a.block ∨ ∃ (i : Nat) (p : Pl), M[i]? = some p ∧ p.blk = some a.block
  newM : ∀ (i : Nat) (p : Pl) (b : Nat), M'[i]? = some p → p.blk = some b → w.heap.size ≤ b ∨ ∃ (j : Nat) (q : Pl), M[j]? = some q ∧ q.blk = some b

theorem Ext.refl (F : Mem) (M : Pls) (w : World) : Ext F M w F M w :=
  ⟨.refl _, .refl _, Nat.le_refl _, rfl, rfl, rfl, fun _ _ _ => rfl, fun a h h' => absurd h h', fun i p b h hb => .inr ⟨i, p, h, hb⟩⟩

theorem Ext.trans {F F' F'' : Mem} {M M' M'' : Pls} {w w' w'' : World} (h : Ext F M w F' M' w') (k : Ext F' M' w' F'' M'' w'') : Ext F M w F'' M'' w'' := by
  refine ⟨h.fle.trans k.fle, h.mle.trans k.mle, Nat.le_trans h.size k.size, k.os.trans h.os, k.tape.trans h.tape, k.output.trans h.output, ?_, ?_, ?_⟩
  · intro b hb hm
    rw [k.old b (Nat.lt_of_lt_of_le hb h.size) ?_, h.old b hb hm]
    intro i p hp e
    rcases h.newM i p b hp e with h1 | ⟨j, q, hq, e'⟩
    · omega
    · exact hm j q hq e'
  · intro a h0 h2
    by_cases h1 : F' a = none
    · rcases k.newF a h1 h2 with h3 | ⟨i, p, hp, e⟩
      · exact .inl (Nat.le_trans h.size h3)
      · exact h.newM i p _ hp e
    · exact h.newF a h0 h1
  · intro i p b hp e
    rcases k.newM i p b hp e with h1 | ⟨j, q, hq, e'⟩
    · exact .inl (Nat.le_trans h.size h1)
    · exact h.newM j q b hq e'

end Go.Ab
