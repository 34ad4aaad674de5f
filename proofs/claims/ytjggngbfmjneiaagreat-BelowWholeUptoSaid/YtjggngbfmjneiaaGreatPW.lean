import Derived.Test.YtjggngbfmjneiaaGreatPV
set_option linter.unusedVariables false
set_option linter.unusedSimpArgs false
namespace Go.Ab
/-! ### Which values are of a type -/
structure InSp (n : ByteArray) (s : Sp) : Prop where
  low : s.low ≠ ⟨#[]⟩ → 0 ≤ numCmp n s.low
  high : s.high ≠ ⟨#[]⟩ → numCmp n s.high ≤ 0
/-- A field of an object: where it stands. -/
def getL : List ByteArray → List Val → ByteArray → Option Val
  | k :: ks, v :: vs, n => if k = n then some v else getL ks vs n
  | _, _, _ => none
def Val.get (v : Val) (n : ByteArray) : Option Val := getL v.keys v.items n
theorem getL_mem {n : ByteArray} {x : Val} : ∀ {ks : List ByteArray} {vs : List Val}, getL ks vs n = some x → x ∈ vs
  | [], _, h => by simp [getL] at h
  | _ :: _, [], h => by simp [getL] at h
  | k :: ks, v :: vs, h => by
    rw [getL] at h
    split at h
    · cases h; exact List.mem_cons_self ..
    · exact List.mem_cons_of_mem _ (getL_mem h)
theorem getL_none {n : ByteArray} : ∀ {ks : List ByteArray} {vs : List Val}, ks.length = vs.length → (getL ks vs n = none ↔ n ∉ ks)
  | [], _, _ => by simp [getL]
  | k :: ks, [], h => by simp at h
  | k :: ks, v :: vs, h => by
    rw [getL]
    have ih := getL_none (n := n) (ks := ks) (vs := vs) (by simpa using h)
    split
    · rename_i e; simp [e]
    · rename_i e
      rw [ih]
      simp [Ne.symm e]
theorem getL_drop {n : ByteArray} {ks : List ByteArray} {vs : List Val} {k : Nat} (h : k < ks.length) (h' : k < vs.length) : getL (ks.drop k) (vs.drop k) n = if ks[k] = n then some vs[k] else getL (ks.drop (k + 1)) (vs.drop (k + 1)) n := by
  rw [List.drop_eq_getElem_cons h, List.drop_eq_getElem_cons h', getL]
theorem getL_end {n : ByteArray} {ks : List ByteArray} {vs : List Val} {k : Nat} (h : ks.length ≤ k) : getL (ks.drop k) (vs.drop k) n = none := by
  rw [List.drop_eq_nil_of_le h]
  cases vs.drop k <;> rfl

inductive InT : Ty → Val → Prop where
  | all {t : Ty} {v : Val} (h : t.all = true) : InT t v
  | null {t : Ty} {v : Val} (k : v.kind = 0) (h : t.null = true) : InT t v
  | fls {t : Ty} {v : Val} (k : v.kind = 1) (h : t.fls = true) : InT t v
  | tru {t : Ty} {v : Val} (k : v.kind = 2) (h : t.tru = true) : InT t v
  | num {t : Ty} {v : Val} (k : v.kind = 3) (l : 0 < t.nums.length) (h : InSp v.num (t.nums[0]'l)) : InT t v
  | anyText {t : Ty} {v : Val} (k : v.kind = 4) (h : t.anyText = true) : InT t v
  | text {t : Ty} {v : Val} (k : v.kind = 4) (h : v.text ∈ t.texts) : InT t v
  | arr {t : Ty} {v : Val} (k : v.kind = 5) (l : 0 < t.arrays.length) (mn : (t.arrays[0]'l).min ≤ v.items.length) (mx' : 0 ≤ (t.arrays[0]'l).max → (v.items.length : Int) ≤ (t.arrays[0]'l).max)
      (h : ∀ x ∈ v.items, InT (t.arrays[0]'l).item x) : InT t v
  | obj {t : Ty} {v : Val} {o : Ob} (k : v.kind = 6) (ho : o ∈ t.objects) (f : ∀ i (h : i < o.names.length) (h' : i < o.fields.length) x, v.get (o.names[i]'h) = some x → InT (o.fields[i]'h') x)
      (m : ∀ i (h : i < o.names.length) (h' : i < o.must.length), v.get (o.names[i]'h) = none → (o.must[i]'h') = false)
      (r : ∀ i (h : i < v.keys.length) (h' : i < v.items.length), (v.keys[i]'h) ∉ o.names → InT o.rest (v.items[i]'h')) : InT t v
structure InOb (v : Val) (o : Ob) : Prop where
  f : ∀ i (h : i < o.names.length) (h' : i < o.fields.length) x, v.get (o.names[i]'h) = some x → InT (o.fields[i]'h') x
  m : ∀ i (h : i < o.names.length) (h' : i < o.must.length), v.get (o.names[i]'h) = none → (o.must[i]'h') = false
  r : ∀ i (h : i < v.keys.length) (h' : i < v.items.length), (v.keys[i]'h) ∉ o.names → InT o.rest (v.items[i]'h')
structure InAr (l : List Val) (a : Ar) : Prop where
  min : a.min ≤ l.length
  max : 0 ≤ a.max → (l.length : Int) ≤ a.max
  item : ∀ x ∈ l, InT a.item x
theorem inT_all {t : Ty} {v : Val} (h : t.all = true) : InT t v := .all h
theorem inT_0 {t : Ty} {v : Val} (a : t.all = false) (k : v.kind = 0) : InT t v ↔ t.null = true :=
  ⟨fun h => by cases h <;> first | assumption | (simp_all; done) | omega, fun h => .null k h⟩
theorem inT_1 {t : Ty} {v : Val} (a : t.all = false) (k : v.kind = 1) : InT t v ↔ t.fls = true :=
  ⟨fun h => by cases h <;> first | assumption | (simp_all; done) | omega, fun h => .fls k h⟩
theorem inT_2 {t : Ty} {v : Val} (a : t.all = false) (k : v.kind = 2) : InT t v ↔ t.tru = true :=
  ⟨fun h => by cases h <;> first | assumption | (simp_all; done) | omega, fun h => .tru k h⟩
theorem inT_3 {t : Ty} {v : Val} (a : t.all = false) (k : v.kind = 3) : InT t v ↔ ∃ l : 0 < t.nums.length, InSp v.num (t.nums[0]'l) :=
  ⟨fun h => by cases h <;> first | (exact ⟨_, by assumption⟩) | (simp_all; done) | omega, fun ⟨l, h⟩ => .num k l h⟩
theorem inT_4 {t : Ty} {v : Val} (a : t.all = false) (k : v.kind = 4) : InT t v ↔ t.anyText = true ∨ v.text ∈ t.texts :=
  ⟨fun h => by cases h <;> first | (exact .inl (by assumption)) | (exact .inr (by assumption)) | (simp_all; done) | omega, fun h => h.elim (.anyText k) (.text k)⟩
theorem inT_5 {t : Ty} {v : Val} (a : t.all = false) (k : v.kind = 5) : InT t v ↔ ∃ l : 0 < t.arrays.length, InAr v.items (t.arrays[0]'l) :=
  ⟨fun h => by cases h <;> first | (exact ⟨_, by assumption, by assumption, by assumption⟩) | (simp_all; done) | omega, fun ⟨l, h⟩ => .arr k l h.min h.max h.item⟩
theorem inT_6 {t : Ty} {v : Val} (a : t.all = false) (k : v.kind = 6) : InT t v ↔ ∃ o ∈ t.objects, InOb v o :=
  ⟨fun h => by cases h <;> first | (exact ⟨_, by assumption, by assumption, by assumption, by assumption⟩) | (simp_all; done) | omega, fun ⟨o, ho, h⟩ => .obj k ho h.f h.m h.r⟩
end Go.Ab
