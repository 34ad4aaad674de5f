import Derived.Test.YtjggngbfmjneiaaGreatFB
set_option linter.unusedVariables false
set_option linter.unusedSimpArgs false
namespace Go.Ab

structure Sp where
  low : ByteArray
  high : ByteArray

mutual
inductive Ty where
  | mk (all null fls tru : Bool) (nums : List Sp) (anyText : Bool) (texts : List ByteArray) (arrays : List Ar) (objects : List Ob)
inductive Ar where
  | mk (item : Ty) (min max : Int)
inductive Ob where
  | mk (names : List ByteArray) (fields : List Ty) (must : List Bool) (rest : Ty)
end

namespace Ty
def all : Ty → Bool | mk a _ _ _ _ _ _ _ _ => a
def null : Ty → Bool | mk _ a _ _ _ _ _ _ _ => a
def fls : Ty → Bool | mk _ _ a _ _ _ _ _ _ => a
def tru : Ty → Bool | mk _ _ _ a _ _ _ _ _ => a
def nums : Ty → List Sp | mk _ _ _ _ a _ _ _ _ => a
def anyText : Ty → Bool | mk _ _ _ _ _ a _ _ _ => a
def texts : Ty → List ByteArray | mk _ _ _ _ _ _ a _ _ => a
def arrays : Ty → List Ar | mk _ _ _ _ _ _ _ a _ => a
def objects : Ty → List Ob | mk _ _ _ _ _ _ _ _ a => a
end Ty
namespace Ar
def item : Ar → Ty | mk a _ _ => a
def min : Ar → Int | mk _ a _ => a
def max : Ar → Int | mk _ _ a => a
end Ar
namespace Ob
def names : Ob → List ByteArray | mk a _ _ _ => a
def fields : Ob → List Ty | mk _ a _ _ => a
def must : Ob → List Bool | mk _ _ a _ => a
def rest : Ob → Ty | mk _ _ _ a => a
end Ob

theorem Ty.arr_lt {t : Ty} {a : Ar} (h : a ∈ t.arrays) : SizeOf.sizeOf a.item < SizeOf.sizeOf t := by
  cases t with | mk b1 b2 b3 b4 ns b5 ts as os =>
  cases a with | mk i m x =>
  have := List.sizeOf_lt_of_mem (show Ar.mk i m x ∈ as from h)
  simp only [Ty.mk.sizeOf_spec, Ar.mk.sizeOf_spec, Ar.item] at *
  omega
theorem Ty.rest_lt {t : Ty} {o : Ob} (h : o ∈ t.objects) : SizeOf.sizeOf o.rest < SizeOf.sizeOf t := by
  cases t with | mk b1 b2 b3 b4 ns b5 ts as os =>
  cases o with | mk n f m r =>
  have := List.sizeOf_lt_of_mem (show Ob.mk n f m r ∈ os from h)
  simp only [Ty.mk.sizeOf_spec, Ob.mk.sizeOf_spec, Ob.rest] at *
  omega
theorem Ty.field_lt {t : Ty} {o : Ob} {f : Ty} (h : o ∈ t.objects) (hf : f ∈ o.fields) : SizeOf.sizeOf f < SizeOf.sizeOf t := by
  cases t with | mk b1 b2 b3 b4 ns b5 ts as os =>
  cases o with | mk n fs m r =>
  have := List.sizeOf_lt_of_mem (show Ob.mk n fs m r ∈ os from h)
  have := List.sizeOf_lt_of_mem (show f ∈ fs from hf)
  simp only [Ty.mk.sizeOf_spec, Ob.mk.sizeOf_spec] at *
  omega

/-- Induction over types. -/
theorem Ty.ind {p : Ty → Prop} (h : ∀ t, (∀ a ∈ t.arrays, p a.item) → (∀ o ∈ t.objects, p o.rest ∧ ∀ f ∈ o.fields, p f) → p t) : ∀ t, p t := by
  intro t
  generalize hn : SizeOf.sizeOf t = n
  induction n using Nat.strongRecOn generalizing t with
  | _ n ih =>
    subst hn
    exact h t (fun a ha => ih _ (Ty.arr_lt ha) _ rfl) (fun o ho => ⟨ih _ (Ty.rest_lt ho) _ rfl, fun f hf => ih _ (Ty.field_lt ho hf) _ rfl⟩)

/-! ### As cells -/
def Sp.cells (s : Sp) : List D := [.lit (.string s.low), .lit (.string s.high)]
def strC (s : ByteArray) : List D := [.lit (.string s)]
def boolC (b : Bool) : List D := [.lit (.bool b)]

mutual
def Ty.cells : Ty → List D
  | .mk all null fls tru nums anyText texts arrays objects => [.lit (.bool all), .lit (.bool null), .lit (.bool fls), .lit (.bool tru), .sl (nums.map Sp.cells), .lit (.bool anyText), .sl (texts.map strC), .sl (Ar.cellsL arrays), .sl (Ob.cellsL objects)]
def Ar.cells : Ar → List D
  | .mk item min max => Ty.cells item ++ [.lit (.int .i64 min), .lit (.int .i64 max)]
def Ob.cells : Ob → List D
  | .mk names fields must rest => [.sl (names.map strC), .sl (Ty.cellsL fields), .sl (must.map boolC)] ++ Ty.cells rest
def Ty.cellsL : List Ty → List (List D)
  | [] => []
  | t :: l => Ty.cells t :: Ty.cellsL l
def Ar.cellsL : List Ar → List (List D)
  | [] => []
  | t :: l => Ar.cells t :: Ar.cellsL l
def Ob.cellsL : List Ob → List (List D)
  | [] => []
  | t :: l => Ob.cells t :: Ob.cellsL l
end

theorem Ty.cellsL_eq : ∀ l : List Ty, Ty.cellsL l = l.map Ty.cells
  | [] => rfl
  | t :: l => by simp [Ty.cellsL, Ty.cellsL_eq l]
theorem Ar.cellsL_eq : ∀ l : List Ar, Ar.cellsL l = l.map Ar.cells
  | [] => rfl
  | t :: l => by simp [Ar.cellsL, Ar.cellsL_eq l]
theorem Ob.cellsL_eq : ∀ l : List Ob, Ob.cellsL l = l.map Ob.cells
  | [] => rfl
  | t :: l => by simp [Ob.cellsL, Ob.cellsL_eq l]

/-- The cells, laid out. -/
def Ty.lay (t : Ty) : List D := [.lit (.bool t.all), .lit (.bool t.null), .lit (.bool t.fls), .lit (.bool t.tru), .sl (t.nums.map Sp.cells), .lit (.bool t.anyText), .sl (t.texts.map strC), .sl (t.arrays.map Ar.cells), .sl (t.objects.map Ob.cells)]
def Ar.lay (a : Ar) : List D := [.lit (.bool a.item.all), .lit (.bool a.item.null), .lit (.bool a.item.fls), .lit (.bool a.item.tru), .sl (a.item.nums.map Sp.cells), .lit (.bool a.item.anyText), .sl (a.item.texts.map strC), .sl (a.item.arrays.map Ar.cells), .sl (a.item.objects.map Ob.cells), .lit (.int .i64 a.min), .lit (.int .i64 a.max)]
def Ob.lay (o : Ob) : List D := [.sl (o.names.map strC), .sl (o.fields.map Ty.cells), .sl (o.must.map boolC), .lit (.bool o.rest.all), .lit (.bool o.rest.null), .lit (.bool o.rest.fls), .lit (.bool o.rest.tru), .sl (o.rest.nums.map Sp.cells), .lit (.bool o.rest.anyText), .sl (o.rest.texts.map strC), .sl (o.rest.arrays.map Ar.cells), .sl (o.rest.objects.map Ob.cells)]
theorem Ty.cells_eq (t : Ty) : t.cells = t.lay := by cases t; simp [Ty.cells, Ty.lay, Ar.cellsL_eq, Ob.cellsL_eq, Ty.all, Ty.null, Ty.fls, Ty.tru, Ty.nums, Ty.anyText, Ty.texts, Ty.arrays, Ty.objects]
theorem Ar.cells_eq (a : Ar) : a.cells = a.lay := by cases a with | mk i m x => simp [Ar.cells, Ar.lay, Ty.cells_eq, Ty.lay, Ar.item, Ar.min, Ar.max]
theorem Ob.cells_eq (o : Ob) : o.cells = o.lay := by cases o with | mk n f m r => simp [Ob.cells, Ob.lay, Ty.cells_eq, Ty.lay, Ty.cellsL_eq, Ob.names, Ob.fields, Ob.must, Ob.rest]

/-- As values. -/
def vTy (t : Ty) : V := .agg [.d (.lit (.bool t.all)), .d (.lit (.bool t.null)), .d (.lit (.bool t.fls)), .d (.lit (.bool t.tru)), .d (.sl (t.nums.map Sp.cells)), .d (.lit (.bool t.anyText)), .d (.sl (t.texts.map strC)), .d (.sl (t.arrays.map Ar.cells)), .d (.sl (t.objects.map Ob.cells))]
def vAr (a : Ar) : V := .agg (a.lay.map .d)
def vOb (o : Ob) : V := .agg (o.lay.map .d)
def vSp (s : Sp) : V := .agg [.d (.lit (.string s.low)), .d (.lit (.string s.high))]
def vInt (n : Int) : V := .d (.lit (.int .i64 n))
def vBool (b : Bool) : V := .d (.lit (.bool b))
def vStr (s : ByteArray) : V := .d (.lit (.string s))
def vTys (l : List Ty) : V := .d (.sl (l.map Ty.cells))
def vArs (l : List Ar) : V := .d (.sl (l.map Ar.cells))
def vObs (l : List Ob) : V := .d (.sl (l.map Ob.cells))
def vSps (l : List Sp) : V := .d (.sl (l.map Sp.cells))
def vStrs (l : List ByteArray) : V := .d (.sl (l.map strC))
def vBools (l : List Bool) : V := .d (.sl (l.map boolC))

theorem row_at {α : Type} (f : α → List D) (l : List α) (i : Nat) (h : i < l.length) : (l.map f).getD i [] = f (l[i]'h) := by
  simp [List.getD_eq_getElem?_getD, List.getElem?_eq_getElem h]
theorem row_Ty (l : List Ty) (i : Nat) (h : i < l.length) : (l.map Ty.cells).getD i [] = (l[i]'h).lay := by rw [row_at, Ty.cells_eq]
theorem row_Ar (l : List Ar) (i : Nat) (h : i < l.length) : (l.map Ar.cells).getD i [] = (l[i]'h).lay := by rw [row_at, Ar.cells_eq]
theorem row_Ob (l : List Ob) (i : Nat) (h : i < l.length) : (l.map Ob.cells).getD i [] = (l[i]'h).lay := by rw [row_at, Ob.cells_eq]
end Go.Ab
