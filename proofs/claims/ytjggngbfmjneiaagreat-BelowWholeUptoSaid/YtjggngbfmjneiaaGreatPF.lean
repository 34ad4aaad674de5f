import Derived.Test.YtjggngbfmjneiaaGreatPE
set_option linter.unusedVariables false
set_option linter.unusedSimpArgs false
namespace Go.Ab
def cmpI (a b : Int) : Int := if a < b then -1 else if b < a then 1 else 0
def mostC (a b : Int) : Int := if a = b then 0 else if a < 0 then 1 else if b < 0 then -1 else cmpI a b
def boundC (o : Int) (a b : ByteArray) : Int := if a = b then 0 else if a = ⟨#[]⟩ then o else if b = ⟨#[]⟩ then -o else numCmp a b
def cmpSp (a b : Sp) : Int := orL [boundC (-1) a.low b.low, boundC 1 a.high b.high]
mutual
def cmpTy : Ty → Ty → Int
  | .mk a n f t nums at' texts arrays objects, y => orL [truthC a y.all, truthC n y.null, truthC f y.fls, truthC t y.tru, cmpL cmpSp nums y.nums, truthC at' y.anyText, cmpL cmpS texts y.texts, cmpArL arrays y.arrays, cmpObL objects y.objects]
def cmpAr : Ar → Ar → Int
  | .mk item mn mx', y => orL [cmpI mn y.min, mostC mx' y.max, cmpTy item y.item]
def cmpOb : Ob → Ob → Int
  | .mk names fields must rest, y => orL [cmpL cmpS names y.names, cmpL truthC must y.must, cmpTyL fields y.fields, cmpTy rest y.rest]
def cmpArL : List Ar → List Ar → Int
  | [], [] => 0
  | [], _ :: _ => -1
  | _ :: _, [] => 1
  | x :: l, y :: m => if cmpAr x y = 0 then cmpArL l m else cmpAr x y
def cmpObL : List Ob → List Ob → Int
  | [], [] => 0
  | [], _ :: _ => -1
  | _ :: _, [] => 1
  | x :: l, y :: m => if cmpOb x y = 0 then cmpObL l m else cmpOb x y
def cmpTyL : List Ty → List Ty → Int
  | [], [] => 0
  | [], _ :: _ => -1
  | _ :: _, [] => 1
  | x :: l, y :: m => if cmpTy x y = 0 then cmpTyL l m else cmpTy x y
end
theorem cmpArL_eq : ∀ l m, cmpArL l m = cmpL cmpAr l m
  | [], [] => by simp [cmpArL, cmpL]
  | [], _ :: _ => by simp [cmpArL, cmpL]
  | _ :: _, [] => by simp [cmpArL, cmpL]
  | x :: l, y :: m => by rw [cmpArL, cmpL, cmpArL_eq l m]
theorem cmpObL_eq : ∀ l m, cmpObL l m = cmpL cmpOb l m
  | [], [] => by simp [cmpObL, cmpL]
  | [], _ :: _ => by simp [cmpObL, cmpL]
  | _ :: _, [] => by simp [cmpObL, cmpL]
  | x :: l, y :: m => by rw [cmpObL, cmpL, cmpObL_eq l m]
theorem cmpTyL_eq : ∀ l m, cmpTyL l m = cmpL cmpTy l m
  | [], [] => by simp [cmpTyL, cmpL]
  | [], _ :: _ => by simp [cmpTyL, cmpL]
  | _ :: _, [] => by simp [cmpTyL, cmpL]
  | x :: l, y :: m => by rw [cmpTyL, cmpL, cmpTyL_eq l m]
theorem cmpTy_eq (x y : Ty) : cmpTy x y = orL [truthC x.all y.all, truthC x.null y.null, truthC x.fls y.fls, truthC x.tru y.tru, cmpL cmpSp x.nums y.nums, truthC x.anyText y.anyText, cmpL cmpS x.texts y.texts, cmpL cmpAr x.arrays y.arrays, cmpL cmpOb x.objects y.objects] := by
  cases x; rw [cmpTy, cmpArL_eq, cmpObL_eq]; rfl
theorem cmpAr_eq (x y : Ar) : cmpAr x y = orL [cmpI x.min y.min, mostC x.max y.max, cmpTy x.item y.item] := by cases x; rw [cmpAr]; rfl
theorem cmpOb_eq (x y : Ob) : cmpOb x y = orL [cmpL cmpS x.names y.names, cmpL truthC x.must y.must, cmpL cmpTy x.fields y.fields, cmpTy x.rest y.rest] := by cases x; rw [cmpOb, cmpTyL_eq]; rfl

/-- The spans' bounds are numbers, all the way down. -/
inductive BOk : Ty → Prop where
  | mk {t : Ty} (nums : ∀ s ∈ t.nums, BoundOk s.low ∧ BoundOk s.high) (item : ∀ a ∈ t.arrays, BOk a.item) (rest : ∀ o ∈ t.objects, BOk o.rest) (field : ∀ o ∈ t.objects, ∀ f ∈ o.fields, BOk f) : BOk t
theorem bok_of : ∀ t : Ty, Formed t → BOk t := by
  intro t
  induction t using Ty.ind with
  | h t iha iho =>
  intro h
  cases h with
  | mk b tx an nu one arr item obj rest field =>
  exact .mk (fun s hs => ⟨(nu.ok s hs).low, (nu.ok s hs).high⟩) (fun a ha => iha a ha (item a ha)) (fun o ho => (iho o ho).1 (rest o ho)) (fun o ho f hf => (iho o ho).2 f hf (field o ho f hf))
end Go.Ab
