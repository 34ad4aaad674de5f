import Derived.Test.YtjggngbfmjneiaaDoorAbF
import Derived.Laws.CopyRow
set_option linter.unusedVariables false
set_option linter.unusedSimpArgs false
namespace Go.Ab
section
variable {P : Program}

/-! ### Scalars -/
def binInt (op : BinOp) (k : IntKind) (a b : Int) : Option Value :=
  match op with
  | .add => some (.int k (k.wrap (a + b)))
  | .sub => some (.int k (k.wrap (a - b)))
  | .mul => some (.int k (k.wrap (a * b)))
  | .quo => if b = 0 then none else some (.int k (k.wrap (a.tdiv b)))
  | .rem => if b = 0 then none else some (.int k (a.tmod b))
  | .and => some (.int k (k.wrap (BitVec.ofInt k.bits a &&& BitVec.ofInt k.bits b).toNat))
  | .or => some (.int k (k.wrap (BitVec.ofInt k.bits a ||| BitVec.ofInt k.bits b).toNat))
  | .xor => some (.int k (k.wrap (BitVec.ofInt k.bits a ^^^ BitVec.ofInt k.bits b).toNat))
  | .andNot => some (.int k (k.wrap (BitVec.ofInt k.bits a &&& ~~~ BitVec.ofInt k.bits b).toNat))
  | .eql => some (.bool (a == b))
  | .neq => some (.bool (a != b))
  | .lss => some (.bool (decide (a < b)))
  | .leq => some (.bool (decide (a ≤ b)))
  | .gtr => some (.bool (decide (a > b)))
  | .geq => some (.bool (decide (a ≥ b)))
  | _ => none

def binShift (op : BinOp) (k : IntKind) (a b : Int) : Option Value :=
  if b < 0 then none else
  match op with
  | .shl => some (.int k (k.wrap (a * 2 ^ (min b.toNat k.bits))))
  | .shr => some (.int k (a.fdiv (2 ^ (min b.toNat k.bits))))
  | _ => none

def strEq (a b : ByteArray) : Bool := a.data.toList == b.data.toList
def strLt (a b : ByteArray) : Bool := Op.bytesLess a.data.toList b.data.toList

def binStr (op : BinOp) (a b : ByteArray) : Option Value :=
  match op with
  | .add => if a.size + b.size ≤ 4611686018427387904 then some (.string (a ++ b)) else none
  | .eql => some (.bool (strEq a b))
  | .neq => some (.bool (!strEq a b))
  | .lss => some (.bool (strLt a b))
  | .leq => some (.bool (strLt a b || strEq a b))
  | .gtr => some (.bool (!(strLt a b || strEq a b)))
  | .geq => some (.bool (!strLt a b))
  | _ => none

theorem binInt_ok {op : BinOp} {k : IntKind} {a b : Int} {r : Value} (h : binInt op k a b = some r) : litOk r = true := by
  cases op <;> simp [binInt] at h <;> first | (subst h; rfl) | (obtain ⟨_, rfl⟩ := h; rfl)
theorem binShift_ok {op : BinOp} {k : IntKind} {a b : Int} {r : Value} (h : binShift op k a b = some r) : litOk r = true := by
  unfold binShift at h
  split at h
  · cases h
  · cases op <;> simp at h <;> subst h <;> rfl
theorem binStr_ok {op : BinOp} {a b : ByteArray} {r : Value} (h : binStr op a b = some r) : litOk r = true := by
  cases op <;> simp [binStr] at h <;> first | (subst h; rfl) | (obtain ⟨h1, rfl⟩ := h; simp [litOk]; exact h1)

theorem Yp.binInt {o : Oper} {g : Nat → V} {H : List O} {op : BinOp} {xt yt : TypeId} {x y : Operand} {k : IntKind} {a b : Int} {r : Value} (ho : o.op = .binOp op xt x y yt)
    (hx : evO g x = .d (.lit (.int k a))) (hy : evO g y = .d (.lit (.int k b))) (hr : binInt op k a b = some r) : Yp P o g H (.d (.lit r)) := by
  intro F M w ρ hi hrep
  have h1 := hrep x; have h2 := hrep y
  rw [hx] at h1; rw [hy] at h2
  refine ⟨r, ?_, .lit r (binInt_ok hr)⟩
  have e1 := h1.lit_inv
  have e2 := h2.lit_inv
  cases op <;> simp [Ab.binInt] at hr <;>
    first
      | (subst hr; simp [execOp, ho, e1, e2, eqGuard, binOp, Op.intArith, Op.intCmp, Op.intBits]; done)
      | (obtain ⟨hb, rfl⟩ := hr; simp [execOp, ho, e1, e2, eqGuard, binOp, Op.intDiv, hb]; done)

theorem Yp.binShift {o : Oper} {g : Nat → V} {H : List O} {op : BinOp} {xt yt : TypeId} {x y : Operand} {k k' : IntKind} {a b : Int} {r : Value} (ho : o.op = .binOp op xt x y yt)
    (hx : evO g x = .d (.lit (.int k a))) (hy : evO g y = .d (.lit (.int k' b))) (hr : binShift op k a b = some r) : Yp P o g H (.d (.lit r)) := by
  intro F M w ρ hi hrep
  have h1 := hrep x; have h2 := hrep y
  rw [hx] at h1; rw [hy] at h2
  refine ⟨r, ?_, .lit r (binShift_ok hr)⟩
  have e1 := h1.lit_inv
  have e2 := h2.lit_inv
  unfold Ab.binShift at hr
  split at hr
  · cases hr
  · rename_i hb
    cases op <;> simp at hr <;> (subst hr; simp [execOp, ho, e1, e2, eqGuard, binOp, Op.shift, hb])

theorem Yp.binStr {o : Oper} {g : Nat → V} {H : List O} {op : BinOp} {xt yt : TypeId} {x y : Operand} {a b : ByteArray} {r : Value} (ho : o.op = .binOp op xt x y yt)
    (hx : evO g x = .d (.lit (.string a))) (hy : evO g y = .d (.lit (.string b))) (hr : binStr op a b = some r) : Yp P o g H (.d (.lit r)) := by
  intro F M w ρ hi hrep
  have h1 := hrep x; have h2 := hrep y
  rw [hx] at h1; rw [hy] at h2
  refine ⟨r, ?_, .lit r (binStr_ok hr)⟩
  have e1 := h1.lit_inv
  have e2 := h2.lit_inv
  cases op <;> simp [Ab.binStr] at hr <;>
    first
      | (subst hr; simp [execOp, ho, e1, e2, eqGuard, binOp, Op.stringOp, strEq, strLt, ByteArray.toList_eq]; done)
      | (obtain ⟨hb, rfl⟩ := hr
         have hm : ¬ (IntKind.i64.max < ((a.size : Int) + (b.size : Int))) := by simp [IntKind.max, IntKind.bits, IntKind.signed]; omega
         simp [execOp, ho, e1, e2, eqGuard, binOp, Op.stringOp, hm]; omega)

theorem run_equalIn_bool (w : World) (d : Nat) {t : TypeId} (ht : P.underlying t = some .bool) (a b : Bool) : (Op.equalIn (d + 1) t (.bool a) (.bool b)).run P w = .ok (a == b) w := by
  simp [Op.equalIn, run_underlying ht]

theorem run_equal_bool (w : World) {t : TypeId} (ht : P.underlying t = some .bool) (a b : Bool) : (Op.equal t (.bool a) (.bool b)).run P w = .ok (a == b) w := run_equalIn_bool w 9999 ht a b

theorem Yp.eqlBool {o : Oper} {g : Nat → V} {H : List O} {xt yt : TypeId} {x y : Operand} {a b : Bool} (ho : o.op = .binOp .eql xt x y yt) (ht : P.underlying xt = some .bool)
    (hx : evO g x = .d (.lit (.bool a))) (hy : evO g y = .d (.lit (.bool b))) : Yp P o g H (.d (.lit (.bool (a == b)))) := by
  intro F M w ρ hi hrep
  have h1 := hrep x; have h2 := hrep y
  rw [hx] at h1; rw [hy] at h2
  refine ⟨_, ?_, .lit _⟩
  have e3 := run_equal_bool (P := P) w ht a b
  have e4 : (eqGuard .eql xt x y (.bool a) (.bool b)).run P w = .ok () w := by simp [eqGuard]
  have e5 : (binOp .eql xt (.bool a) (.bool b)).run P w = .ok (.bool (a == b)) w := by simp only [binOp]; simp only [Sem.run_bind, e3, Result.andThen_ok, Sem.run_pure]
  simp only [execOp, ho, h1.lit_inv, h2.lit_inv, Sem.run_bind, e4, e5, Result.andThen_ok, Sem.run_pure]

theorem Yp.neqBool {o : Oper} {g : Nat → V} {H : List O} {xt yt : TypeId} {x y : Operand} {a b : Bool} (ho : o.op = .binOp .neq xt x y yt) (ht : P.underlying xt = some .bool)
    (hx : evO g x = .d (.lit (.bool a))) (hy : evO g y = .d (.lit (.bool b))) : Yp P o g H (.d (.lit (.bool (a != b)))) := by
  intro F M w ρ hi hrep
  have h1 := hrep x; have h2 := hrep y
  rw [hx] at h1; rw [hy] at h2
  refine ⟨_, ?_, .lit _⟩
  have e3 := run_equal_bool (P := P) w ht a b
  have e4 : (eqGuard .neq xt x y (.bool a) (.bool b)).run P w = .ok () w := by simp [eqGuard]
  have e5 : (binOp .neq xt (.bool a) (.bool b)).run P w = .ok (.bool (a != b)) w := by simp only [binOp]; simp only [Sem.run_bind, e3, Result.andThen_ok, Sem.run_pure]; rfl
  simp only [execOp, ho, h1.lit_inv, h2.lit_inv, Sem.run_bind, e4, e5, Result.andThen_ok, Sem.run_pure]

theorem Yp.not {o : Oper} {g : Nat → V} {H : List O} {t : TypeId} {x : Operand} {a : Bool} (ho : o.op = .unOp .not t x) (hx : evO g x = .d (.lit (.bool a))) : Yp P o g H (.d (.lit (.bool (!a)))) := by
  intro F M w ρ hi hrep
  have h1 := hrep x
  rw [hx] at h1
  refine ⟨_, ?_, .lit _⟩
  simp [execOp, ho, h1.lit_inv, Op.unary]

theorem Yp.neg {o : Oper} {g : Nat → V} {H : List O} {t : TypeId} {x : Operand} {k : IntKind} {a : Int} (ho : o.op = .unOp .neg t x) (hx : evO g x = .d (.lit (.int k a))) : Yp P o g H (.d (.lit (.int k (k.wrap (0 - a))))) := by
  intro F M w ρ hi hrep
  have h1 := hrep x
  rw [hx] at h1
  refine ⟨_, ?_, .lit _⟩
  simp [execOp, ho, h1.lit_inv, Op.unary, Op.intArith]

theorem Yp.convInt {o : Oper} {g : Nat → V} {H : List O} {s t : TypeId} {x : Operand} {d : TypeDesc} {k k' : IntKind} {a : Int} (ho : o.op = .convert s t x) (hs : P.underlying s = some d) (ht : P.underlying t = some (.int k'))
    (hx : evO g x = .d (.lit (.int k a))) : Yp P o g H (.d (.lit (.int k' (k'.wrap a)))) := by
  intro F M w ρ hi hrep
  have h1 := hrep x
  rw [hx] at h1
  refine ⟨_, ?_, .lit _⟩
  simp [execOp, ho, h1.lit_inv, convert, run_underlying hs, run_underlying ht, Conv.intToInt]

def maxInts : Int → List Int → Int
  | a, [] => a
  | a, b :: l => maxInts (if b > a then b else a) l

theorem Yp.max2 {o : Oper} {g : Nat → V} {H : List O} {x y : Operand} {ts : Array TypeId} {k : IntKind} {a b : Int} (ho : o.op = .call { callee := .builtin .max, args := #[x, y], argTypes := ts })
    (hx : evO g x = .d (.lit (.int k a))) (hy : evO g y = .d (.lit (.int k b))) : Yp P o g H (.d (.lit (.int k (if b > a then b else a)))) := by
  intro F M w ρ hi hrep
  have h1 := hrep x; have h2 := hrep y
  rw [hx] at h1; rw [hy] at h2
  refine ⟨_, ?_, .lit _⟩
  simp [execOp, ho, resolve, invoke, builtin, Builtin.max_, h1.lit_inv, h2.lit_inv, Builtin.max2]

theorem Yp.min2 {o : Oper} {g : Nat → V} {H : List O} {x y : Operand} {ts : Array TypeId} {k : IntKind} {a b : Int} (ho : o.op = .call { callee := .builtin .min, args := #[x, y], argTypes := ts })
    (hx : evO g x = .d (.lit (.int k a))) (hy : evO g y = .d (.lit (.int k b))) : Yp P o g H (.d (.lit (.int k (if b < a then b else a)))) := by
  intro F M w ρ hi hrep
  have h1 := hrep x; have h2 := hrep y
  rw [hx] at h1; rw [hy] at h2
  refine ⟨_, ?_, .lit _⟩
  simp [execOp, ho, resolve, invoke, builtin, Builtin.min_, h1.lit_inv, h2.lit_inv, Builtin.min2]

/-! ### Slicing -/
theorem Yp.sliceStr {o : Oper} {g : Nat → V} {H : List O} {t : TypeId} {x : Operand} {lo hi : Option Operand} {s : ByteArray} {l h : Nat} (ho : o.op = .slice t x lo hi none) (ht : P.underlying t = some .string)
    (hx : evO g x = .d (.lit (.string s))) (hl : match lo with | some y => ∃ k, evO g y = .d (.lit (.int k (l : Int))) | none => l = 0)
    (hh : match hi with | some y => ∃ k, evO g y = .d (.lit (.int k (h : Int))) | none => h = s.size) (h1 : l ≤ h) (h2 : h ≤ s.size) : Yp P o g H (.d (.lit (.string (s.extract l h)))) := by
  intro F M w ρ hi' hrep
  have e1 := hrep x
  rw [hx] at e1
  have hbd : s.size ≤ 4611686018427387904 := by
    have e0 := e1
    generalize ρ x = v at e0
    cases e0 with
    | d e0 => cases e0 with | lit _ h => simpa [litOk] using h
  refine ⟨_, ?_, .lit _ (by simp [litOk]; omega)⟩
  have e1 := e1.lit_inv
  cases lo <;> cases hi <;> simp only at hl hh
  · subst hl; subst hh
    simp [execOp, ho, Instr.sliceAt, Instr.slice, run_underlying ht, e1, Instr.sliceBounds]
  · rename_i y
    obtain ⟨k, hk⟩ := hh
    subst hl
    have e2 := hrep y
    rw [hk] at e2
    have h2' : (h : Int) ≤ (s.size : Int) := by omega
    simp [execOp, ho, Instr.sliceAt, Instr.slice, run_underlying ht, e1, e2.lit_inv, Instr.sliceBounds, Instr.sliceBound, asIntOf, h2]
  · rename_i y
    obtain ⟨k, hk⟩ := hl
    subst hh
    have e2 := hrep y
    rw [hk] at e2
    simp [execOp, ho, Instr.sliceAt, Instr.slice, run_underlying ht, e1, e2.lit_inv, Instr.sliceBounds, Instr.sliceBound, asIntOf, h1]
  · rename_i y z
    obtain ⟨k, hk⟩ := hl
    obtain ⟨k', hk'⟩ := hh
    have e2 := hrep y
    rw [hk] at e2
    have e3 := hrep z
    rw [hk'] at e3
    simp [execOp, ho, Instr.sliceAt, Instr.slice, run_underlying ht, e1, e2.lit_inv, e3.lit_inv, Instr.sliceBounds, Instr.sliceBound, asIntOf, h1, h2]
end
end Go.Ab
