import Derived.Test.YtjggngbfmjneiaaDoorAbL
set_option linter.unusedVariables false
set_option linter.unusedSimpArgs false
namespace Go.Ab

/-! ### The table of types -/
inductive TK where
  | bool
  | int (k : IntKind)
  | str
  | slice (e : TypeId)
  | struct (fields : List (Nat × TypeId))
  | arr (len : Nat) (e : TypeId)
  | other

def TK.agg : TK → Bool
  | .struct _ | .arr _ _ => true
  | _ => false

def tkOf : TypeDesc → TK
  | .bool => .bool
  | .int k => .int k
  | .string => .str
  | .slice e => .slice e
  | .struct fs => .struct (fs.toList.map fun f => (f.offset, f.type))
  | .array n e => .arr n e
  | _ => .other

structure TI where
  k : TK
  size : Nat
  bytes : Nat
  zero : Option V

def tiOf (P : Program) (t : TypeId) : Option TI :=
  match P.info? t, P.underlying t with
  | some i, some d => some { k := tkOf d, size := i.size, bytes := i.bytes, zero := i.zero.map ofC }
  | _, _ => none

abbrev Tab := TypeId → Option TI
def TabOk (P : Program) (T : Tab) : Prop := ∀ t i, T t = some i → tiOf P t = some i

def tab : List (TypeId × TI) → Tab
  | [], _ => none
  | p :: l, t => if t = p.1 then some p.2 else tab l t

theorem tabOk_nil (P : Program) : TabOk P (tab []) := fun t i h => by simp [tab] at h
theorem tabOk_cons {P : Program} {p : TypeId × TI} {l : List (TypeId × TI)} (h : tiOf P p.1 = some p.2) (k : TabOk P (tab l)) : TabOk P (tab (p :: l)) := by
  intro t i ht
  unfold tab at ht
  split at ht
  · rename_i e; subst e; cases ht; exact h
  · exact k t i ht

section
variable {P : Program} {T : Tab}

theorem ti_parts {t : TypeId} {i : TI} (h : tiOf P t = some i) : ∃ inf d, P.info? t = some inf ∧ P.underlying t = some d ∧ i.k = tkOf d ∧ i.size = inf.size ∧ i.bytes = inf.bytes ∧ i.zero = inf.zero.map ofC := by
  unfold tiOf at h
  split at h
  · rename_i inf d h1 h2
    cases h
    exact ⟨inf, d, h1, h2, rfl, rfl, rfl, rfl⟩
  · cases h

theorem ti_is {t : TypeId} {i : TI} (h : tiOf P t = some i) : TyIs P t i.k.agg i.size := by
  obtain ⟨inf, d, h1, h2, h3, h4, h5, h6⟩ := ti_parts h
  refine ⟨?_, by rw [h1, h4]; rfl⟩
  rw [h2, h3]
  cases d <;> rfl

theorem ti_slice {t e : TypeId} {i : TI} (h : tiOf P t = some i) (hk : i.k = .slice e) : P.underlying t = some (.slice e) := by
  obtain ⟨inf, d, h1, h2, h3, h4, h5, h6⟩ := ti_parts h
  rw [hk] at h3
  cases d <;> simp [tkOf] at h3
  subst h3; exact h2

theorem ti_str {t : TypeId} {i : TI} (h : tiOf P t = some i) (hk : i.k = .str) : P.underlying t = some .string := by
  obtain ⟨inf, d, h1, h2, h3, h4, h5, h6⟩ := ti_parts h
  rw [hk] at h3
  cases d <;> simp [tkOf] at h3
  exact h2

theorem ti_bool {t : TypeId} {i : TI} (h : tiOf P t = some i) (hk : i.k = .bool) : P.underlying t = some .bool := by
  obtain ⟨inf, d, h1, h2, h3, h4, h5, h6⟩ := ti_parts h
  rw [hk] at h3
  cases d <;> simp [tkOf] at h3
  exact h2

theorem ti_int {t : TypeId} {i : TI} {k : IntKind} (h : tiOf P t = some i) (hk : i.k = .int k) : P.underlying t = some (.int k) := by
  obtain ⟨inf, d, h1, h2, h3, h4, h5, h6⟩ := ti_parts h
  rw [hk] at h3
  cases d <;> simp [tkOf] at h3
  subst h3; exact h2

theorem ti_arr {t e : TypeId} {n : Nat} {i : TI} (h : tiOf P t = some i) (hk : i.k = .arr n e) : P.underlying t = some (.array n e) := by
  obtain ⟨inf, d, h1, h2, h3, h4, h5, h6⟩ := ti_parts h
  rw [hk] at h3
  cases d <;> simp [tkOf] at h3
  obtain ⟨rfl, rfl⟩ := h3; exact h2

theorem ti_struct {t : TypeId} {fs : List (Nat × TypeId)} {i : TI} (h : tiOf P t = some i) (hk : i.k = .struct fs) : ∃ fa, P.underlying t = some (.struct fa) ∧ fa.toList.map (fun f => (f.offset, f.type)) = fs := by
  obtain ⟨inf, d, h1, h2, h3, h4, h5, h6⟩ := ti_parts h
  rw [hk] at h3
  cases d <;> simp [tkOf] at h3
  exact ⟨_, h2, h3.symm⟩

theorem ti_zero {t : TypeId} {i : TI} {z : V} (h : tiOf P t = some i) (hz : i.zero = some z) : zeroV P t = some z := by
  obtain ⟨inf, d, h1, h2, h3, h4, h5, h6⟩ := ti_parts h
  unfold zeroV
  rw [h1, ← hz, h6]
  rfl

theorem cellsV_litC (v : Value) : cellsV (litC v) = [litC v] := by unfold litC; split <;> rfl
theorem cellsV_ofC (v : Value) : (cellsV (ofC v)).length = v.cells.size := by
  cases v <;> first | (simp [ofC, cellsV, Value.cells]; done) | (simp only [ofC, cellsV_litC]; rfl)

theorem ti_el {t : TypeId} {i : TI} {z : V} (h : tiOf P t = some i) (hz : i.zero = some z) (hl : (cellsV z).length = i.size) (hp : 0 < i.size) : ElIs P t i.size i.bytes := by
  obtain ⟨inf, d, h1, h2, h3, h4, h5, h6⟩ := ti_parts h
  rw [h6] at hz
  cases hzz : inf.zero with
  | none => simp [hzz] at hz
  | some v =>
    simp [hzz] at hz
    refine ⟨inf, v, h1, hzz, h4.symm, h5.symm, ?_, hp⟩
    rw [← hl, ← hz, cellsV_ofC]

/-! ### The evaluator -/
/-- A way that is taken. -/
def bsel (b : Bool) (A B : Prop) : Prop := match b with
  | true => A
  | false => B
theorem bsel_intro {b : Bool} {A B : Prop} (h : b = true → A) (k : b = false → B) : bsel b A B := by cases b; exact k rfl; exact h rfl
theorem bsel_true {b : Bool} {A B : Prop} (e : b = true) (h : A) : bsel b A B := by subst e; exact h
theorem bsel_false {b : Bool} {A B : Prop} (e : b = false) (h : B) : bsel b A B := by subst e; exact h
theorem bsel_elim {b : Bool} {A B : Prop} (h : bsel b A B) : (b = true ∧ A) ∨ (b = false ∧ B) := by cases b; exact .inr ⟨rfl, h⟩; exact .inl ⟨rfl, h⟩

/-- What is asked. -/
def chk (b : Bool) (A : Prop) : Prop := match b with
  | true => A
  | false => False
theorem chk_intro {b : Bool} {A : Prop} (e : b = true) (h : A) : chk b A := by subst e; exact h
theorem chk_elim {b : Bool} {A : Prop} (h : chk b A) : b = true ∧ A := by cases b; exact h.elim; exact ⟨rfl, h⟩

def fieldOf (T : Tab) (t : TypeId) (f : Nat) : Option (Nat × TypeId × TI) :=
  match T t with
  | some i => match i.k with
    | .struct fs => match fs[f]? with
      | some (off, u) => match T u with
        | some j => some (off, u, j)
        | none => none
      | none => none
    | _ => none
  | none => none

def sliceEl (T : Tab) (t : TypeId) : Option (TypeId × TI) :=
  match T t with
  | some i => match i.k with
    | .slice e => match T e with
      | some j => some (e, j)
      | none => none
    | _ => none
  | none => none

def isStr (T : Tab) (t : TypeId) : Bool := match T t with | some i => (match i.k with | .str => true | _ => false) | none => false
def isBool (T : Tab) (t : TypeId) : Bool := match T t with | some i => (match i.k with | .bool => true | _ => false) | none => false

structure raw (P : Program) (o : Oper) (g : Nat → V) (H : List O) (K : V → List O → Prop) : Prop where
  ex : ∃ r H', Yl P o g H r H' ∧ K r H'

def structPl (T : Tab) : List (Nat × TypeId) → Option (List (Nat × Nat))
  | [] => some []
  | (off, u) :: l => match T u with
    | some i => match structPl T l with
      | some r => some ((off, i.size) :: r)
      | none => none
    | none => none

def evalLen (T : Tab) (g : Nat → V) (H : List O) (x : Operand) (t : TypeId) (R : Prop) (K : V → List O → Prop) : Prop :=
  match T t with
  | some i => match i.k with
    | .str => match evO g x with
      | .d (.lit (.string s)) => K (.d (.lit (.int .i64 s.size))) H
      | _ => R
    | .slice _ => match lenOf (evO g x) with
      | some n => K (.d (.lit (.int .i64 n))) H
      | none => R
    | _ => R
  | none => R

def evalAppend (T : Tab) (g : Nat → V) (H : List O) (s x : Operand) (t : TypeId) (R : Prop) (K : V → List O → Prop) : Prop :=
  match sliceEl T t, evO g s, rowsOf (evO g x) with
  | some (e, j), .gs tok rows, some news => match H[tok]?, j.zero with
    | some (.tok e' sz n), some z =>
      (e' = e ∧ sz = j.size ∧ n = rows.length ∧ (cellsV z).length = j.size ∧ 0 < j.size ∧ (∀ r ∈ rows, r.length = j.size) ∧ (∀ r ∈ news, r.length = j.size) ∧ oneRows news = true ∧
        (rows.length + news.length) * j.bytes ≤ 140737488355328 ∧ rows.length + news.length ≤ 140737488355328) ∧ K (.gs tok (rows ++ news)) (H.set tok (.tok e j.size (rows.length + news.length)))
    | _, _ => R
  | _, _, _ => R

def evalBin (T : Tab) (g : Nat → V) (H : List O) (op : BinOp) (xt : TypeId) (x y : Operand) (R : Prop) (K : V → List O → Prop) : Prop :=
  match evO g x, evO g y with
  | .d (.lit (.int k a)), .d (.lit (.int k' b)) => match op with
    | .shl => match binShift .shl k a b with
      | some r => K (.d (.lit r)) H
      | none => R
    | .shr => match binShift .shr k a b with
      | some r => K (.d (.lit r)) H
      | none => R
    | op => if k' = k then (match binInt op k a b with
      | some r => K (.d (.lit r)) H
      | none => R) else R
  | .d (.lit (.string a)), .d (.lit (.string b)) => match binStr op a b with
    | some r => K (.d (.lit r)) H
    | none => R
  | .d (.lit (.bool a)), .d (.lit (.bool b)) => match isBool T xt, op with
    | true, .eql => K (.d (.lit (.bool (a == b)))) H
    | true, .neq => K (.d (.lit (.bool (a != b)))) H
    | _, _ => R
  | _, _ => R

structure IdxS (rows : List (List D)) (i : Int) (n : Nat) (K : V → List O → Prop) (H : List O) : Prop where
  nonneg : 0 ≤ i
  lt : i < rows.length
  len : (rows.getD i.toNat []).length = n
  pos : 0 < n
  go : K (.rp (rows.getD i.toNat [])) H

structure IdxStr (s : ByteArray) (i : Int) (K : V → List O → Prop) (H : List O) : Prop where
  nonneg : 0 ≤ i
  lt : i.toNat < s.size
  go : K (.d (.lit (.int .u8 (s[i.toNat]'lt).toNat))) H

def evalIndexAddr (T : Tab) (g : Nat → V) (H : List O) (t : TypeId) (x ix : Operand) (R : Prop) (K : V → List O → Prop) : Prop :=
  match sliceEl T t, evO g ix with
  | some (e, j), .d (.lit (.int k i)) => match evO g x with
    | .hs id off len => chk (decide (0 ≤ i) && decide (i < len)) (K (.bx id (off + i.toNat * j.size)) H)
    | xv => match rowsOf xv with
      | some rows => IdxS rows i j.size K H
      | none => R
  | _, _ => R

def evalIndex (T : Tab) (g : Nat → V) (H : List O) (t : TypeId) (x ix : Operand) (R : Prop) (K : V → List O → Prop) : Prop :=
  match T t, evO g ix with
  | some ti, .d (.lit (.int k i)) => match ti.k, evO g x with
    | .str, .d (.lit (.string s)) => IdxStr s i K H
    | .arr len e, .agg cells => match T e with
      | some j => chk (decide (0 ≤ i) && decide (i < len)) (chk (decide (i.toNat * j.size + j.size ≤ cells.length)) (match partV j.k.agg j.size cells (i.toNat * j.size) with
        | some r => K r H
        | none => R))
      | none => R
    | _, _ => R
  | _, _ => R

def evalSlice (T : Tab) (g : Nat → V) (H : List O) (t : TypeId) (x : Operand) (lo hi : Option Operand) (R : Prop) (K : V → List O → Prop) : Prop :=
  match isStr T t, evO g x, lo, hi with
  | true, .d (.lit (.string s)), some a, none => match evO g a with
    | .d (.lit (.int _ l)) => chk (decide (0 ≤ l) && decide (l ≤ s.size)) (K (.d (.lit (.string (s.extract l.toNat s.size)))) H)
    | _ => R
  | true, .d (.lit (.string s)), none, some b => match evO g b with
    | .d (.lit (.int _ h)) => chk (decide (0 ≤ h) && decide (h ≤ s.size)) (K (.d (.lit (.string (s.extract 0 h.toNat)))) H)
    | _ => R
  | _, _, _, _ => R

def builtinEv (P : Program) (T : Tab) (o : Oper) (g : Nat → V) (H : List O) (b : Builtin) (args : List Operand) (ats : List TypeId) (K : V → List O → Prop) : Prop :=
  match b, args, ats with
  | .len, [x], [t] => evalLen T g H x t (raw P o g H K) K
  | .append, [s, x], [t, u] => if u = t then evalAppend T g H s x t (raw P o g H K) K else raw P o g H K
  | .max, [x, y], _ => match evO g x, evO g y with
    | .d (.lit (.int k a)), .d (.lit (.int k' b)) => if k' = k then K (.d (.lit (.int k (if b > a then b else a)))) H else raw P o g H K
    | _, _ => raw P o g H K
  | .min, [x, y], _ => match evO g x, evO g y with
    | .d (.lit (.int k a)), .d (.lit (.int k' b)) => if k' = k then K (.d (.lit (.int k (if b < a then b else a)))) H else raw P o g H K
    | _, _ => raw P o g H K
  | _, _, _ => raw P o g H K

/-! What is made is laid out at once. -/
def forceV (x : V) (k : V → Prop) : Prop := match x with
  | .d (.lit v) => k (.d (.lit v))
  | .d (.sl r) => k (.d (.sl r))
  | .gs t r => k (.gs t r)
  | .bx i o => k (.bx i o)
  | .rp c => k (.rp c)
  | .xs r => k (.xs r)
  | .hs i o l => k (.hs i o l)
  | .agg c => k (.agg c)
  | .fn f a c => k (.fn f a c)
  | .tup l => k (.tup l)
  | .any => k .any
theorem forceV_eq (x : V) (k : V → Prop) : forceV x k = k x := by
  cases x with
  | d x => cases x <;> rfl
  | _ => rfl
noncomputable def forceL (l : List V) : (List V → Prop) → Prop :=
  @List.rec V (fun _ => (List V → Prop) → Prop) (fun k => k []) (fun x _ ih k => forceV x fun x => ih fun l => k (x :: l)) l
theorem forceL_eq : ∀ (l : List V) (k : List V → Prop), forceL l k = k l
  | [], k => rfl
  | x :: l, k => by
    show forceV x (fun x => forceL l fun l => k (x :: l)) = _
    rw [forceV_eq, forceL_eq l]
def fillStep (place : Nat → Option (Nat × Nat)) (i : Nat) (v : V) (cells : List V) (k : List V → Prop) (R : Prop) : Prop := match place i with
  | none => R
  | some (off, size) => bsel (decide ((cellsV v).length = size) && decide (off + size ≤ cells.length) && (cellsV v).all V.oneC) (forceL (setsV cells off (cellsV v)) k) R
noncomputable def fillK (place : Nat → Option (Nat × Nat)) (parts : List (Nat × V)) : List V → (List V → Prop) → Prop → Prop :=
  @List.rec (Nat × V) (fun _ => List V → (List V → Prop) → Prop → Prop) (fun cells k R => k cells) (fun p _ ih cells k R => forceV p.2 fun v => fillStep place p.1 v cells (fun c => ih c k R) R) parts
theorem fillK_eq (place : Nat → Option (Nat × Nat)) : ∀ (parts : List (Nat × V)) (cells : List V) (k : List V → Prop) (R : Prop), fillK place parts cells k R = match fillV place cells parts with | some r => k r | none => R
  | [], cells, k, R => rfl
  | (i, v) :: l, cells, k, R => by
    show forceV v (fun v => fillStep place i v cells (fun c => fillK place l c k R) R) = _
    rw [forceV_eq, fillStep, fillV]
    cases place i with
    | none => rfl
    | some p =>
      obtain ⟨off, size⟩ := p
      dsimp only
      by_cases hc : (cellsV v).length = size ∧ off + size ≤ cells.length ∧ (cellsV v).all V.oneC = true
      · rw [if_pos hc, ← fillK_eq place l]
        have e : (decide ((cellsV v).length = size) && decide (off + size ≤ cells.length) && (cellsV v).all V.oneC) = true := by simp only [Bool.and_eq_true, decide_eq_true_eq]; exact ⟨⟨hc.1, hc.2.1⟩, hc.2.2⟩
        rw [e]
        exact forceL_eq _ _
      · rw [if_neg hc]
        have e : (decide ((cellsV v).length = size) && decide (off + size ≤ cells.length) && (cellsV v).all V.oneC) = false := by
          rw [← Bool.not_eq_true]; simp only [Bool.and_eq_true, decide_eq_true_eq]; exact fun t => hc ⟨t.1.1, t.1.2, t.2⟩
        rw [e]
        rfl
def dOf (x : V) (k : D → Prop) (R : Prop) : Prop := match toD x with
  | some d => k d
  | none => R
noncomputable def toDsK (l : List V) : (List D → Prop) → Prop → Prop :=
  @List.rec V (fun _ => (List D → Prop) → Prop → Prop) (fun k R => k []) (fun x _ ih k R => dOf x (fun d => ih (fun ds => k (d :: ds)) R) R) l
theorem toDsK_eq : ∀ (l : List V) (k : List D → Prop) (R : Prop), toDsK l k R = match l.mapM toD with | some ds => k ds | none => R
  | [], k, R => rfl
  | x :: l, k, R => by
    show dOf x (fun d => toDsK l (fun ds => k (d :: ds)) R) R = _
    rw [dOf]
    cases hx : toD x with
    | none => simp [List.mapM_cons, hx]
    | some d =>
      dsimp only
      rw [toDsK_eq l]
      cases hm : l.mapM toD with
      | none => simp [List.mapM_cons, hx, hm]
      | some ds => simp [List.mapM_cons, hx, hm]

def exPure (P : Program) (T : Tab) (o : Oper) (g : Nat → V) (H : List O) (K : V → List O → Prop) : Prop :=
  match o.op with
  | .move x => K (evO g x) H
  | .assign x => K (evO g x) H
  | .pick c a b => match evO g c with
    | .d (.lit (.bool t)) => bsel t (K (evO g a) H) (K (evO g b) H)
    | _ => raw P o g H K
  | .alloc t => match T t with
    | some i => match i.zero with
      | some z => chk ((cellsV z).all V.oneC) (K (.bx H.length 0) (H ++ [.row t (cellsV z)]))
      | none => raw P o g H K
    | none => raw P o g H K
  | .box t x => chk ((cellsV (evO g x)).all V.oneC) (K (.bx H.length 0) (H ++ [.row t (cellsV (evO g x))]))
  | .load t a => match T t with
    | some i => match loadA i.k.agg i.size H (evO g a) with
      | some r => K r H
      | none => raw P o g H K
    | none => raw P o g H K
  | .store t a x => match T t, evO g a with
    | some i, .bx id off => match H[id]? with
      | some (.row ty cells) => chk ((cellsV (evO g x)).all V.oneC && decide ((cellsV (evO g x)).length = i.size) && decide (off + i.size ≤ cells.length)) (K (.d (.lit undef)) (H.set id (.row ty (setsV cells off (cellsV (evO g x))))))
      | _ => raw P o g H K
    | _, _ => raw P o g H K
  | .nilCheck x => match evO g x with
    | .bx _ _ => K (evO g x) H
    | .rp _ => K (evO g x) H
    | .fn (.func _) _ _ => K (evO g x) H
    | _ => raw P o g H K
  | .binOp op xt x y _ => evalBin T g H op xt x y (raw P o g H K) K
  | .unOp op _ x => match op, evO g x with
    | .not, .d (.lit (.bool a)) => K (.d (.lit (.bool (!a)))) H
    | .neg, .d (.lit (.int k a)) => K (.d (.lit (.int k (k.wrap (0 - a))))) H
    | _, _ => raw P o g H K
  | .convert s t x => match T s, T t, evO g x with
    | some _, some j, .d (.lit (.int _ a)) => match j.k with
      | .int k' => K (.d (.lit (.int k' (k'.wrap a)))) H
      | _ => raw P o g H K
    | _, _, _ => raw P o g H K
  | .makeFunc f a c => K (.fn f (a.toList.map (evO g)) (c.toList.map (evO g))) H
  | .extract x i => match evO g x with
    | .tup vs => match vs[i]? with
      | some r => K r H
      | none => raw P o g H K
    | _ => raw P o g H K
  | .fieldAddr t x f => match fieldOf T t f, evO g x with
    | some (off, _, j), .bx id k => chk (decide (0 < j.size)) (K (.bx id (k + off)) H)
    | some (off, _, j), .rp cells => chk (decide (0 < j.size)) (K (.rp (cells.drop off)) H)
    | _, _ => raw P o g H K
  | .field t x f => match fieldOf T t f, evO g x with
    | some (off, _, j), .agg cells => match partV j.k.agg j.size cells off with
      | some r => chk (decide (off + j.size ≤ cells.length)) (K r H)
      | none => raw P o g H K
    | _, _ => raw P o g H K
  | .indexAddr t x ix => evalIndexAddr T g H t x ix (raw P o g H K) K
  | .index t x ix => evalIndex T g H t x ix (raw P o g H K) K
  | .slice t x lo hi none => evalSlice T g H t x lo hi (raw P o g H K) K
  | .build t parts => match T t with
    | some i => match i.zero with
      | some z => match i.k with
        | .struct fs => match structPl T fs with
          | some pl => fillK (fun i => pl.toArray[i]?) (parts.toList.map fun (i, x) => (i, evO g x)) (cellsV z) (fun r => chk ((cellsV z).all V.oneC) (K (.agg r) H)) (raw P o g H K)
          | none => raw P o g H K
        | .arr _ e => match T e with
          | some j => fillK (fun i => some (i * j.size, j.size)) (parts.toList.map fun (i, x) => (i, evO g x)) (cellsV z) (fun r => chk ((cellsV z).all V.oneC) (K (.agg r) H)) (raw P o g H K)
          | none => raw P o g H K
        | _ => raw P o g H K
      | none => raw P o g H K
    | none => raw P o g H K
  | .buildSlice t len parts => match sliceEl T t with
    | some (_, j) => match j.zero with
      | some z => forceL ((List.range (len * j.size)).map fun i => (cellsV z).getD (i % j.size) .any) fun c0 => fillK (fun i => some (i * j.size, j.size)) (parts.toList.map fun (i, x) => (i, evO g x)) c0
          (fun cells => toDsK cells (fun ds => chk ((cellsV z).all V.oneC && decide ((cellsV z).length = j.size) && decide (0 < len * j.size) && decide (len * j.size ≤ 16777216) && decide (cells.length = len * j.size)) (K (.xs (chunk j.size len ds)) H)) (raw P o g H K)) (raw P o g H K)
      | none => raw P o g H K
    | none => raw P o g H K
  | .call { callee := .builtin b, args := args, argTypes := ats } => builtinEv P T o g H b args.toList ats.toList K
  | _ => raw P o g H K
end
end Go.Ab
