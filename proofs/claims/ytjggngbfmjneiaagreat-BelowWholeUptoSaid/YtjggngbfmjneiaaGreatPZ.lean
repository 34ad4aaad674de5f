import Derived.Test.YtjggngbfmjneiaaGreatPY
import Derived.Test.YtjggngbfmjneiaaGreatPD
set_option linter.unusedVariables false
set_option linter.unusedSimpArgs false
namespace Go.Ab
/-! ### Below and apart -/
def Hollow (s : Sp) : Prop := s.low ≠ ⟨#[]⟩ ∧ s.high ≠ ⟨#[]⟩ ∧ 0 < numCmp s.low s.high
open Classical in
noncomputable def lowerS (a b : ByteArray) : ByteArray := if a = ⟨#[]⟩ ∨ (b ≠ ⟨#[]⟩ ∧ numCmp a b < 0) then b else a
open Classical in
noncomputable def upperS (a b : ByteArray) : ByteArray := if a = ⟨#[]⟩ ∨ (b ≠ ⟨#[]⟩ ∧ 0 < numCmp a b) then b else a
def SpanIn (a b : Sp) : Prop := Hollow a ∨ ((b.low = ⟨#[]⟩ ∨ (a.low ≠ ⟨#[]⟩ ∧ numCmp b.low a.low ≤ 0)) ∧ (b.high = ⟨#[]⟩ ∨ (a.high ≠ ⟨#[]⟩ ∧ numCmp a.high b.high ≤ 0)))
def tyLaid : Ty := .mk false true true true [spOpen] true [] [arOpen] [obOpen]
def laid (t : Ty) : Ty := if t.all = true then tyLaid else t
/-- Where a name stands. -/
def whereL : List ByteArray → ByteArray → Nat → Option Nat
  | [], _, _ => none
  | k :: ks, n, i => if k = n then some i else whereL ks n (i + 1)
theorem whereL_some {n : ByteArray} : ∀ {ks : List ByteArray} {i j : Nat}, whereL ks n i = some j → ∃ m, j = i + m ∧ ∃ h : m < ks.length, ks[m] = n
  | [], _, _, h => by simp [whereL] at h
  | k :: ks, i, j, h => by
    rw [whereL] at h
    split at h
    · rename_i e; cases h; exact ⟨0, rfl, by simp, e⟩
    · obtain ⟨m, e, hm, hk⟩ := whereL_some h
      exact ⟨m + 1, by omega, by simp; omega, by simpa using hk⟩
theorem whereL_none {n : ByteArray} : ∀ {ks : List ByteArray} {i : Nat}, whereL ks n i = none ↔ n ∉ ks
  | [], _ => by simp [whereL]
  | k :: ks, i => by
    rw [whereL]
    split
    · rename_i e; simp [e]
    · rename_i e
      rw [whereL_none (ks := ks)]
      simp [Ne.symm e]
/-- An alternative's field of a name, and whether it must be there. -/
def fieldO (o : Ob) (n : ByteArray) : Ty × Bool := match whereL o.names n 0 with
  | some i => (o.fields.getD i tyNil, o.must.getD i false)
  | none => (o.rest, false)
/-- The names of two alternatives, each once. -/
structure NamesOf (a b : Ob) (l : List ByteArray) : Prop where
  mem : ∀ n, n ∈ l ↔ n ∈ a.names ∨ n ∈ b.names
def WordsIn (a b : Ty) : Prop := (a.null = true → b.null = true) ∧ (a.fls = true → b.fls = true) ∧ (a.tru = true → b.tru = true)
def NumsIn (a b : Ty) : Prop := ∀ h : 0 < a.nums.length, ∃ h' : 0 < b.nums.length, SpanIn (a.nums[0]'h) (b.nums[0]'h')
def TextsIn (a b : Ty) : Prop := b.anyText = true ∨ (a.anyText = false ∧ ∀ s ∈ a.texts, s ∈ b.texts)
structure ArrIn (a b : Ar) : Prop where
  min : b.min ≤ a.min
  max : 0 ≤ b.max → 0 ≤ a.max ∧ a.max ≤ b.max
def Names2 (a b : Ob) (n : ByteArray) : Prop := n ∈ a.names ∨ n ∈ b.names
inductive BelowP : Ty → Ty → Prop where
  | never {a b : Ty} (h : kinds a = 0) : BelowP a b
  | all {a b : Ty} (h : b.all = true) : BelowP a b
  | mk {a b : Ty} (w : WordsIn (laid a) b) (n : NumsIn (laid a) b) (t : TextsIn (laid a) b)
      (al : 0 < (laid a).arrays.length → 0 < b.arrays.length) (ar : ∀ (h : 0 < (laid a).arrays.length) (h' : 0 < b.arrays.length), ArrIn ((laid a).arrays[0]'h) (b.arrays[0]'h'))
      (it : ∀ (h : 0 < (laid a).arrays.length) (h' : 0 < b.arrays.length), ((laid a).arrays[0]'h).max ≠ 0 → BelowP ((laid a).arrays[0]'h).item (b.arrays[0]'h').item)
      (pick : Ob → Ob) (pm : ∀ x ∈ (laid a).objects, pick x ∈ b.objects) (mu : ∀ x ∈ (laid a).objects, ∀ n, Names2 x (pick x) n → (fieldO (pick x) n).2 = true → (fieldO x n).2 = true)
      (fl : ∀ x ∈ (laid a).objects, ∀ n, Names2 x (pick x) n → BelowP (fieldO x n).1 (fieldO (pick x) n).1) (rs : ∀ x ∈ (laid a).objects, BelowP x.rest (pick x).rest) : BelowP a b
structure LiesP (x y : Ob) : Prop where
  must : ∀ n, Names2 x y n → (fieldO y n).2 = true → (fieldO x n).2 = true
  field : ∀ n, Names2 x y n → BelowP (fieldO x n).1 (fieldO y n).1
  rest : BelowP x.rest y.rest
structure ArrsIn (a b : Ty) : Prop where
  len : 0 < a.arrays.length → 0 < b.arrays.length
  arr : ∀ (h : 0 < a.arrays.length) (h' : 0 < b.arrays.length), ArrIn (a.arrays[0]'h) (b.arrays[0]'h')
  item : ∀ (h : 0 < a.arrays.length) (h' : 0 < b.arrays.length), (a.arrays[0]'h).max ≠ 0 → BelowP (a.arrays[0]'h).item (b.arrays[0]'h').item
def ObjsIn (a b : Ty) : Prop := ∀ x ∈ a.objects, ∃ y ∈ b.objects, LiesP x y
theorem belowP_iff {a b : Ty} : BelowP a b ↔ kinds a = 0 ∨ b.all = true ∨ (WordsIn (laid a) b ∧ NumsIn (laid a) b ∧ TextsIn (laid a) b ∧ ArrsIn (laid a) b ∧ ObjsIn (laid a) b) := by
  constructor
  · intro h
    cases h with
    | never h => exact .inl h
    | all h => exact .inr (.inl h)
    | mk w n t al ar it pick pm mu fl rs => exact .inr (.inr ⟨w, n, t, ⟨al, ar, it⟩, fun x hx => ⟨pick x, pm x hx, mu x hx, fl x hx, rs x hx⟩⟩)
  · rintro (h | h | ⟨w, n, t, ⟨al, ar, it⟩, ob⟩)
    · exact .never h
    · exact .all h
    · have : ∀ x : Ob, ∃ y : Ob, x ∈ (laid a).objects → y ∈ b.objects ∧ LiesP x y := fun x => by
        by_cases hx : x ∈ (laid a).objects
        · obtain ⟨y, hy, hl⟩ := ob x hx; exact ⟨y, fun _ => ⟨hy, hl⟩⟩
        · exact ⟨obOpen, fun h => absurd h hx⟩
      exact .mk w n t al ar it (fun x => (this x).choose) (fun x hx => ((this x).choose_spec hx).1) (fun x hx => ((this x).choose_spec hx).2.must) (fun x hx => ((this x).choose_spec hx).2.field) (fun x hx => ((this x).choose_spec hx).2.rest)

/-! Apart -/
def WordsAp (a b : Ty) : Prop := ¬(a.null = true ∧ b.null = true) ∧ ¬(a.fls = true ∧ b.fls = true) ∧ ¬(a.tru = true ∧ b.tru = true)
def NumsAp (a b : Ty) : Prop := ∀ (h : 0 < a.nums.length) (h' : 0 < b.nums.length), Hollow ⟨lowerS (a.nums[0]'h).low (b.nums[0]'h').low, upperS (a.nums[0]'h).high (b.nums[0]'h').high⟩
def TextsAp (a b : Ty) : Prop := ((a.anyText = true ∨ b.anyText = true) → ¬(a.anyText = true ∧ b.anyText = true) ∧ a.texts = [] ∧ b.texts = []) ∧ (a.anyText = false → b.anyText = false → ∀ s ∈ a.texts, s ∉ b.texts)
def leastA (a b : Ar) : Int := if a.min < b.min then b.min else a.min
def NoLen (a b : Ar) : Prop := (0 ≤ a.max ∧ a.max < leastA a b) ∨ (0 ≤ b.max ∧ b.max < leastA a b)
inductive ApartP : Ty → Ty → Prop where
  | mk {a b : Ty} (w : WordsAp (laid a) (laid b)) (n : NumsAp (laid a) (laid b)) (t : TextsAp (laid a) (laid b))
      (ln : ∀ (h : 0 < (laid a).arrays.length) (h' : 0 < (laid b).arrays.length), ¬NoLen ((laid a).arrays[0]'h) ((laid b).arrays[0]'h') → 0 < leastA ((laid a).arrays[0]'h) ((laid b).arrays[0]'h'))
      (it : ∀ (h : 0 < (laid a).arrays.length) (h' : 0 < (laid b).arrays.length), ¬NoLen ((laid a).arrays[0]'h) ((laid b).arrays[0]'h') → ApartP ((laid a).arrays[0]'h).item ((laid b).arrays[0]'h').item)
      (at' : Ob → Ob → ByteArray) (an : ∀ x ∈ (laid a).objects, ∀ y ∈ (laid b).objects, Names2 x y (at' x y)) (am : ∀ x ∈ (laid a).objects, ∀ y ∈ (laid b).objects, (fieldO x (at' x y)).2 = true ∨ (fieldO y (at' x y)).2 = true)
      (af : ∀ x ∈ (laid a).objects, ∀ y ∈ (laid b).objects, ApartP (fieldO x (at' x y)).1 (fieldO y (at' x y)).1) : ApartP a b
def UnlikeP (x y : Ob) : Prop := ∃ n, Names2 x y n ∧ ((fieldO x n).2 = true ∨ (fieldO y n).2 = true) ∧ ApartP (fieldO x n).1 (fieldO y n).1
structure ArrsAp (a b : Ty) : Prop where
  len : ∀ (h : 0 < a.arrays.length) (h' : 0 < b.arrays.length), ¬NoLen (a.arrays[0]'h) (b.arrays[0]'h') → 0 < leastA (a.arrays[0]'h) (b.arrays[0]'h')
  item : ∀ (h : 0 < a.arrays.length) (h' : 0 < b.arrays.length), ¬NoLen (a.arrays[0]'h) (b.arrays[0]'h') → ApartP (a.arrays[0]'h).item (b.arrays[0]'h').item
def ObjsAp (a b : Ty) : Prop := ∀ x ∈ a.objects, ∀ y ∈ b.objects, UnlikeP x y
theorem apartP_iff {a b : Ty} : ApartP a b ↔ WordsAp (laid a) (laid b) ∧ NumsAp (laid a) (laid b) ∧ TextsAp (laid a) (laid b) ∧ ArrsAp (laid a) (laid b) ∧ ObjsAp (laid a) (laid b) := by
  constructor
  · intro h
    cases h with
    | mk w n t ln it at' an am af => exact ⟨w, n, t, ⟨ln, it⟩, fun x hx y hy => ⟨at' x y, an x hx y hy, am x hx y hy, af x hx y hy⟩⟩
  · rintro ⟨w, n, t, ⟨ln, it⟩, ob⟩
    have : ∀ x y : Ob, ∃ n : ByteArray, x ∈ (laid a).objects → y ∈ (laid b).objects → Names2 x y n ∧ ((fieldO x n).2 = true ∨ (fieldO y n).2 = true) ∧ ApartP (fieldO x n).1 (fieldO y n).1 := fun x y => by
      by_cases hx : x ∈ (laid a).objects
      · by_cases hy : y ∈ (laid b).objects
        · obtain ⟨n, h⟩ := ob x hx y hy; exact ⟨n, fun _ _ => h⟩
        · exact ⟨⟨#[]⟩, fun _ h => absurd h hy⟩
      · exact ⟨⟨#[]⟩, fun h => absurd h hx⟩
    exact .mk w n t ln it (fun x y => (this x y).choose) (fun x hx y hy => ((this x y).choose_spec hx hy).1) (fun x hx y hy => ((this x y).choose_spec hx hy).2.1) (fun x hx y hy => ((this x y).choose_spec hx hy).2.2)
end Go.Ab
set_option linter.unusedVariables false
set_option linter.unusedSimpArgs false
namespace Go.Ab
/-! ### Sorted names -/
theorem strLt_cmp {a b : ByteArray} : strLt a b = true ↔ cmpS a b = -1 := by
  unfold cmpS
  constructor
  · intro h; rw [if_pos h]
  · intro h
    by_cases h' : strLt a b = true
    · exact h'
    · rw [if_neg h'] at h
      split at h <;> omega
theorem strLt_irrefl (a : ByteArray) : strLt a a = false := by
  cases h : strLt a a with
  | false => rfl
  | true =>
    have h1 := strLt_cmp.1 h
    have h2 := str_TO.refl (a := a) trivial
    omega
theorem strLt_trans {a b c : ByteArray} (h : strLt a b = true) (k : strLt b c = true) : strLt a c = true := by
  have h1 := strLt_cmp.1 h
  have k1 := strLt_cmp.1 k
  have t := str_TO.trans a b c trivial trivial trivial (by omega) (by omega)
  have r := str_TO.range a c trivial trivial
  apply strLt_cmp.2
  rcases r with r | r | r
  · exact r
  · have := (str_TO.lt1 trivial trivial trivial (by omega : cmpS a b ≤ 0) (by omega : cmpS b c ≤ 0) r).1
    omega
  · omega
def Sorted (l : List ByteArray) : Prop := ∀ i j (hi : i < l.length) (hj : j < l.length), i < j → strLt l[i] l[j] = true
theorem Rise.sorted {l : List ByteArray} (h : Rise l) : Sorted l := by
  intro i j hi hj hij
  induction j with
  | zero => omega
  | succ j ih =>
    have up := h.up j hj
    by_cases e : i = j
    · subst e; exact up
    · exact strLt_trans (ih (by omega) (by omega)) up
/-- Where a name stands, or would. -/
def seat (l : List ByteArray) (s : ByteArray) : Nat := l.findIdx fun x => !strLt x s
theorem seat_eq {l : List ByteArray} {s : ByteArray} {i : Nat} (hi : i ≤ l.length) (h1 : ∀ k (h : k < l.length), k < i → strLt l[k] s = true) (h2 : ∀ k (h : k < l.length), i ≤ k → strLt l[k] s = false) : seat l s = i := by
  unfold seat
  rcases Nat.lt_or_ge i l.length with hlt | hge
  · exact (List.findIdx_eq hlt).2 ⟨by rw [h2 i hlt (Nat.le_refl _)]; rfl, fun j hj => by rw [h1 j (by omega) hj]; rfl⟩
  · have : i = l.length := by omega
    subst this
    exact List.findIdx_eq_length.2 fun x hx => by
      obtain ⟨k, hk, rfl⟩ := List.mem_iff_getElem.1 hx
      rw [h1 k hk hk]; rfl
theorem seat_mem {l : List ByteArray} (hs : Sorted l) {s : ByteArray} {i : Nat} (h1 : ∀ k (h : k < l.length), k < i → strLt l[k] s = true) (h2 : ∀ k (h : k < l.length), i ≤ k → strLt l[k] s = false) : s ∈ l ↔ ∃ h : i < l.length, l[i] = s := by
  constructor
  · intro h
    obtain ⟨m, hm, e⟩ := List.mem_iff_getElem.1 h
    have hmi : i = m := by
      rcases Nat.lt_trichotomy m i with hlt | heq | hgt
      · have := h1 m hm hlt
        rw [e, strLt_irrefl] at this; cases this
      · exact heq.symm
      · have := hs i m (by omega) hm hgt
        rw [e] at this
        rw [h2 i (by omega) (Nat.le_refl _)] at this; cases this
    subst hmi
    exact ⟨hm, e⟩
  · rintro ⟨h, e⟩
    exact e ▸ List.getElem_mem h
theorem sorted_inj {l : List ByteArray} (hs : Sorted l) {i j : Nat} (hi : i < l.length) (hj : j < l.length) (e : l[i] = l[j]) : i = j := by
  rcases Nat.lt_trichotomy i j with h | h | h
  · have := hs i j hi hj h; rw [e, strLt_irrefl] at this; cases this
  · exact h
  · have := hs j i hj hi h; rw [e, strLt_irrefl] at this; cases this
theorem whereL_at {l : List ByteArray} (hs : Sorted l) {s : ByteArray} {i : Nat} (hi : i < l.length) (e : l[i] = s) : whereL l s 0 = some i := by
  cases h : whereL l s 0 with
  | none => exact absurd (e ▸ List.getElem_mem hi) (whereL_none.1 h)
  | some j =>
    obtain ⟨m, hj, hm, hk⟩ := whereL_some h
    have := sorted_inj hs hm hi (hk.trans e.symm)
    congr 1; omega
end Go.Ab
set_option linter.unusedVariables false
set_option linter.unusedSimpArgs false
namespace Go.Ab
/-- What Below and Apart need of a type. -/
structure ObW (o : Ob) : Prop where
  sorted : Sorted o.names
  fields : o.names.length = o.fields.length
  must : o.names.length = o.must.length
  few : o.names.length ≤ 2000
inductive Bw : Ty → Prop where
  | mk {t : Ty} (nums : ∀ s ∈ t.nums, SpOk s) (item : ∀ a ∈ t.arrays, Bw a.item) (obj : ∀ o ∈ t.objects, ObW o) (rest : ∀ o ∈ t.objects, Bw o.rest) (field : ∀ o ∈ t.objects, ∀ f ∈ o.fields, Bw f) : Bw t
theorem bw_all : Bw tyAll := .mk (fun _ h => by cases h) (fun _ h => by cases h) (fun _ h => by cases h) (fun _ h => by cases h) (fun _ h => by cases h)
theorem bw_nil : Bw tyNil := .mk (fun _ h => by cases h) (fun _ h => by cases h) (fun _ h => by cases h) (fun _ h => by cases h) (fun _ h => by cases h)
theorem bw_laid0 : Bw tyLaid := by
  refine .mk (fun s hs => ?_) (fun a ha => ?_) (fun o ho => ?_) (fun o ho => ?_) (fun o ho f hf => ?_)
  · have hs : s ∈ [spOpen] := hs
    obtain rfl := List.mem_singleton.1 hs
    exact ⟨.inl rfl, .inl rfl⟩
  · have ha : a ∈ [arOpen] := ha
    obtain rfl := List.mem_singleton.1 ha
    exact bw_all
  · have ho : o ∈ [obOpen] := ho
    obtain rfl := List.mem_singleton.1 ho
    exact ⟨fun i j hi => absurd hi (Nat.not_lt_zero _), rfl, rfl, Nat.zero_le _⟩
  · have ho : o ∈ [obOpen] := ho
    obtain rfl := List.mem_singleton.1 ho
    exact bw_all
  · have ho : o ∈ [obOpen] := ho
    obtain rfl := List.mem_singleton.1 ho
    cases hf
theorem Bw.laid {t : Ty} (h : Bw t) : Bw (Ab.laid t) := by
  unfold Ab.laid
  split
  · exact bw_laid0
  · exact h
theorem fieldO_mem (o : Ob) (n : ByteArray) (h : ObW o) : (fieldO o n).1 = o.rest ∨ (fieldO o n).1 ∈ o.fields := by
  unfold fieldO
  cases hw : whereL o.names n 0 with
  | none => exact .inl rfl
  | some i =>
    obtain ⟨m, hj, hm, hk⟩ := whereL_some hw
    right
    have : i < o.fields.length := by have := h.fields; omega
    simp only [List.getD_eq_getElem?_getD]
    rw [List.getElem?_eq_getElem this]
    exact List.getElem_mem this
theorem Bw.fieldO {t : Ty} (h : Bw t) {o : Ob} (ho : o ∈ t.objects) (n : ByteArray) : Bw (Ab.fieldO o n).1 := by
  cases h with | mk nu it ob re fi =>
  rcases fieldO_mem o n (ob o ho) with e | e
  · rw [e]; exact re o ho
  · exact fi o ho _ e
theorem fieldO_lt {t : Ty} {o : Ob} (ho : o ∈ t.objects) (h : ObW o) (n : ByteArray) : SizeOf.sizeOf (Ab.fieldO o n).1 < SizeOf.sizeOf t := by
  rcases fieldO_mem o n h with e | e
  · rw [e]; exact Ty.rest_lt ho
  · exact Ty.field_lt ho e
end Go.Ab
set_option linter.unusedVariables false
set_option linter.unusedSimpArgs false
namespace Go.Ab
/-! ### The types of the statement's first calls -/
def lvA : Ty := .mk false false false false [] false [⟨#[97]⟩] [] []
def lvB : Ty := .mk false false false false [] true [] [] []
def lvN : Ty := .mk false true false false [] false [] [] []
theorem bw_plain {t : Ty} (h1 : t.nums = []) (h2 : t.arrays = []) (h3 : t.objects = []) : Bw t :=
  .mk (fun s h => by rw [h1] at h; cases h) (fun s h => by rw [h2] at h; cases h) (fun s h => by rw [h3] at h; cases h) (fun s h => by rw [h3] at h; cases h) (fun s h => by rw [h3] at h; cases h)
theorem laid_of_not {t : Ty} (h : t.all = false) : laid t = t := by unfold laid; rw [if_neg (by simp [h])]
theorem lv_below : BelowP lvA lvB := belowP_iff.2 (.inr (.inr (by
  rw [laid_of_not (t := lvA) rfl]
  refine ⟨⟨fun h => (by cases h), fun h => (by cases h), fun h => (by cases h)⟩, fun h => absurd h (Nat.lt_irrefl 0), .inl rfl, ⟨fun h => absurd h (Nat.lt_irrefl 0), fun h => absurd h (Nat.lt_irrefl 0), fun h => absurd h (Nat.lt_irrefl 0)⟩, fun x hx => (by cases hx)⟩)))
theorem lv_notBelow : ¬BelowP lvB lvA := fun h => by
  rcases belowP_iff.1 h with h | h | h
  · exact absurd h (by decide)
  · cases h
  · rw [laid_of_not (t := lvB) rfl] at h
    rcases h.2.2.1 with h | h
    · cases h
    · cases h.1
theorem lv_apart : ApartP lvA lvN := apartP_iff.2 (by
  rw [laid_of_not (t := lvA) rfl, laid_of_not (t := lvN) rfl]
  refine ⟨⟨fun h => (by cases h.1), fun h => (by cases h.1), fun h => (by cases h.1)⟩, fun h => absurd h (Nat.lt_irrefl 0), ⟨fun h => (by rcases h with h | h <;> cases h), fun _ _ s hs h => (by cases h)⟩, ⟨fun h => absurd h (Nat.lt_irrefl 0), fun h => absurd h (Nat.lt_irrefl 0)⟩, fun x hx => (by cases hx)⟩)
theorem lv_notApart : ¬ApartP lvA lvB := fun h => by
  have h := apartP_iff.1 h
  rw [laid_of_not (t := lvA) rfl, laid_of_not (t := lvB) rfl] at h
  have := (h.2.2.1.1 (.inr rfl)).2.1
  cases this
end Go.Ab
set_option linter.unusedVariables false
set_option linter.unusedSimpArgs false
namespace Go.Ab
/-! ### A type of few parts has few names everywhere -/
def FewT (t : Ty) : Prop := ∃ m : Int, 0 ≤ m ∧ m ≤ 2000 ∧ t.pt m ≤ m
theorem fewAr {m : Int} (h0 : 0 ≤ m) (hm : m ≤ 2000) : ∀ (l : List Ar) (n : Int), (∀ a ∈ l, ∀ k, 0 ≤ k → k ≤ 2000 → PtOk a.item k) → 1 ≤ n → n ≤ capB m → Ar.ptL l n m ≤ m → ∀ a ∈ l, FewT a.item
  | [], n, _, h1, h2, _, a, ha => by cases ha
  | a :: l, n, h, h1, h2, hle, b, hb => by
    rw [Ar.ptL] at hle
    by_cases hn : n ≤ m
    · rw [if_pos hn, Ar.pt_eq] at hle
      have ha := h a (List.mem_cons_self ..) (m - n) (by omega) (by omega)
      have c1 := ha.one
      have c2 := ha.cap
      have c3 : n + a.item.pt (m - n) ≤ capB m := by simp only [capB] at c2 h2 ⊢; omega
      have := ptAr h0 hm l (n + a.item.pt (m - n)) (fun b hb => h b (List.mem_cons_of_mem _ hb)) (by omega) c3
      rcases List.mem_cons.1 hb with rfl | hb
      · exact ⟨m - n, by omega, by omega, by omega⟩
      · exact fewAr h0 hm l (n + a.item.pt (m - n)) (fun b hb => h b (List.mem_cons_of_mem _ hb)) (by omega) c3 hle b hb
    · rw [if_neg hn] at hle; exact absurd hle hn
theorem fewTy {m : Int} (h0 : 0 ≤ m) (hm : m ≤ 2000) : ∀ (l : List Ty) (n : Int), (∀ a ∈ l, ∀ k, 0 ≤ k → k ≤ 2000 → PtOk a k) → 1 ≤ n → n ≤ capB m → Ty.ptL l n m ≤ m → ∀ a ∈ l, FewT a
  | [], n, _, h1, h2, _, a, ha => by cases ha
  | a :: l, n, h, h1, h2, hle, b, hb => by
    rw [Ty.ptL] at hle
    by_cases hn : n ≤ m
    · rw [if_pos hn] at hle
      have ha := h a (List.mem_cons_self ..) (m - n) (by omega) (by omega)
      have c1 := ha.one
      have c2 := ha.cap
      have c3 : n + a.pt (m - n) ≤ capB m := by simp only [capB] at c2 h2 ⊢; omega
      have := ptTy h0 hm l (n + a.pt (m - n)) (fun b hb => h b (List.mem_cons_of_mem _ hb)) (by omega) c3
      rcases List.mem_cons.1 hb with rfl | hb
      · exact ⟨m - n, by omega, by omega, by omega⟩
      · exact fewTy h0 hm l (n + a.pt (m - n)) (fun b hb => h b (List.mem_cons_of_mem _ hb)) (by omega) c3 hle b hb
    · rw [if_neg hn] at hle; exact absurd hle hn
theorem fewOb1 {m : Int} (h0 : 0 ≤ m) (hm : m ≤ 2000) {o : Ob} {n : Int} (h : ObLe o) (h1 : 1 ≤ n) (hn : n ≤ m) (hle : o.pt n m ≤ m) : o.names.length ≤ 2000 ∧ FewT o.rest ∧ ∀ f ∈ o.fields, FewT f := by
  rw [Ob.pt_eq] at hle
  have c0 := h.names
  have c0' := h.must
  have hr := h.rest (m - n) (by omega) (by omega)
  have c1 := hr.one
  have c2 := hr.cap
  have c3 : n + o.names.length + o.must.length + o.rest.pt (m - n) ≤ capB m := by simp only [capB] at c2 ⊢; omega
  have := ptTy h0 hm o.fields (n + o.names.length + o.must.length + o.rest.pt (m - n)) h.fields (by omega) c3
  exact ⟨by omega, ⟨m - n, by omega, by omega, by omega⟩, fewTy h0 hm o.fields _ h.fields (by omega) c3 hle⟩
theorem fewOb {m : Int} (h0 : 0 ≤ m) (hm : m ≤ 2000) : ∀ (l : List Ob) (n : Int), (∀ o ∈ l, ObLe o) → 1 ≤ n → n ≤ capB m → Ob.ptL l n m ≤ m → ∀ o ∈ l, o.names.length ≤ 2000 ∧ FewT o.rest ∧ ∀ f ∈ o.fields, FewT f
  | [], n, _, h1, h2, _, a, ha => by cases ha
  | a :: l, n, h, h1, h2, hle, b, hb => by
    rw [Ob.ptL] at hle
    by_cases hn : n ≤ m
    · rw [if_pos hn] at hle
      have ha := ptOb1 h0 hm (h a (List.mem_cons_self ..)) h1 hn
      have := ptOb h0 hm l (a.pt n m) (fun b hb => h b (List.mem_cons_of_mem _ hb)) (by omega) ha.2.1
      rcases List.mem_cons.1 hb with rfl | hb
      · exact fewOb1 h0 hm (h b (List.mem_cons_self ..)) h1 hn (by omega)
      · exact fewOb h0 hm l (a.pt n m) (fun b hb => h b (List.mem_cons_of_mem _ hb)) (by omega) ha.2.1 hle b hb
    · rw [if_neg hn] at hle; exact absurd hle hn
theorem bw_of : ∀ t : Ty, Deep t → FewT t → Formed t → Bw t := by
  intro t
  induction t using Ty.ind with
  | h t iha iho =>
  intro hd ⟨m, h0, hm, hle⟩ hf
  have hb := hd.bd
  have b1 := hb.nums
  have b2 := hb.texts
  simp only [maxRows] at b1 b2
  have hA := ptAr h0 hm t.arrays (1 + t.texts.length + t.nums.length) (fun a ha => pt_ok a.item (deep_arr hd ha)) (by omega) (by simp only [capB]; omega)
  have hL : ∀ o ∈ t.objects, ObLe o := fun o ho => by
    have hob := deep_obj hd ho
    have hbo := ob_bd hob
    exact ⟨hbo.names, hbo.must, pt_ok _ (deep_rest hob), fun f hf => pt_ok f (deep_field hob hf)⟩
  have hO := ptOb h0 hm t.objects (Ar.ptL t.arrays (1 + t.texts.length + t.nums.length) m) hL (by omega) hA.2.1
  rw [Ty.pt_eq] at hle
  have fa := fewAr h0 hm t.arrays (1 + t.texts.length + t.nums.length) (fun a ha => pt_ok a.item (deep_arr hd ha)) (by omega) (by simp only [capB]; omega) (by omega)
  have fo := fewOb h0 hm t.objects _ hL (by omega) hA.2.1 hle
  cases hf with
  | mk bare texts any nums one arr item obj rest field =>
    exact .mk (fun s hs => ⟨(nums.ok s hs).low, (nums.ok s hs).high⟩) (fun a ha => iha a ha (deep_arr hd ha) (fa a ha) (item a ha)) (fun o ho => ⟨(obj o ho).rise.sorted, (obj o ho).fields, (obj o ho).must, (fo o ho).1⟩)
      (fun o ho => (iho o ho).1 (deep_rest (deep_obj hd ho)) (fo o ho).2.1 (rest o ho)) fun o ho f hf => (iho o ho).2 f hf (deep_field (deep_obj hd ho) hf) ((fo o ho).2.2 f hf) (field o ho f hf)
end Go.Ab
set_option linter.unusedVariables false
set_option linter.unusedSimpArgs false
namespace Go.Ab
/-! ### What Below and Apart say is so of every value -/
theorem fieldO_at {o : Ob} (w : ObW o) {i : Nat} (h : i < o.names.length) : fieldO o o.names[i] = (o.fields[i]'(by rw [← w.fields]; exact h), o.must[i]'(by rw [← w.must]; exact h)) := by
  have h1 : i < o.fields.length := by rw [← w.fields]; exact h
  have h2 : i < o.must.length := by rw [← w.must]; exact h
  unfold fieldO
  rw [whereL_at w.sorted h rfl]
  simp only [List.getD_eq_getElem?_getD]
  rw [List.getElem?_eq_getElem h1, List.getElem?_eq_getElem h2]; rfl
theorem fieldO_out {o : Ob} {n : ByteArray} (h : n ∉ o.names) : fieldO o n = (o.rest, false) := by
  unfold fieldO
  rw [whereL_none.2 h]
theorem fieldO_must {o : Ob} {n : ByteArray} (h : (fieldO o n).2 = true) : n ∈ o.names := by
  by_cases hn : n ∈ o.names
  · exact hn
  · rw [fieldO_out hn] at h; cases h
theorem getL_some {n : ByteArray} {x : Val} : ∀ {ks : List ByteArray} {vs : List Val}, getL ks vs n = some x → ∃ i, ∃ (h : i < ks.length) (h' : i < vs.length), ks[i] = n ∧ vs[i] = x
  | [], _, h => by simp [getL] at h
  | _ :: _, [], h => by simp [getL] at h
  | k :: ks, v :: vs, h => by
    rw [getL] at h
    split at h
    · rename_i e; cases h; exact ⟨0, by simp, by simp, e, rfl⟩
    · obtain ⟨i, h1, h2, h3, h4⟩ := getL_some h
      exact ⟨i + 1, by simp; omega, by simp; omega, by simpa using h3, by simpa using h4⟩
theorem getL_at {n : ByteArray} : ∀ {ks : List ByteArray} {vs : List Val} (hu : ∀ i j (hi : i < ks.length) (hj : j < ks.length), ks[i] = ks[j] → i = j) {i : Nat} (h : i < ks.length) (h' : i < vs.length), ks[i] = n → getL ks vs n = some vs[i]
  | [], _, _, i, h, _, _ => by simp at h
  | _ :: _, [], _, i, _, h', _ => by simp at h'
  | k :: ks, v :: vs, hu, i, h, h', e => by
    rw [getL]
    by_cases ek : k = n
    · rw [if_pos ek]
      have := hu i 0 h (by simp) (by rw [e]; simpa using ek.symm)
      subst this; rfl
    · rw [if_neg ek]
      cases i with
      | zero => exact absurd (by simpa using e) ek
      | succ i =>
        have := getL_at (n := n) (ks := ks) (vs := vs) (fun a b ha hb he => by have := hu (a + 1) (b + 1) (by simp; omega) (by simp; omega) (by simpa using he); omega) (i := i) (by simpa using h) (by simpa using h') (by simpa using e)
        rw [this]; rfl
structure InObF (v : Val) (o : Ob) : Prop where
  f : ∀ n y, v.get n = some y → InT (fieldO o n).1 y
  m : ∀ n, (fieldO o n).2 = true → v.get n ≠ none
theorem inOb_iff {v : Val} {o : Ob} (hv : VOk v) (k : v.kind = 6) (w : ObW o) : InOb v o ↔ InObF v o := by
  cases hv with | mk lo hi num num' text text' items keys len rise all =>
  have hl := len k
  have hu : ∀ i j (hi : i < v.keys.length) (hj : j < v.keys.length), v.keys[i] = v.keys[j] → i = j := fun i j hi hj e => sorted_inj (rise k).sorted hi hj e
  constructor
  · intro h
    refine ⟨fun n y hg => ?_, fun n hm hg => ?_⟩
    · by_cases hn : n ∈ o.names
      · obtain ⟨i, hi, rfl⟩ := List.mem_iff_getElem.1 hn
        rw [fieldO_at w hi]
        exact h.f i hi _ y hg
      · rw [fieldO_out hn]
        obtain ⟨i, h1, h2, h3, h4⟩ := getL_some hg
        have := h.r i h1 h2 (by rw [h3]; exact hn)
        rw [h4] at this
        exact this
    · obtain ⟨i, hi, rfl⟩ := List.mem_iff_getElem.1 (fieldO_must hm)
      rw [fieldO_at w hi] at hm
      have := h.m i hi (by rw [← w.must]; exact hi) hg
      rw [this] at hm; cases hm
  · intro h
    refine ⟨fun i h1 h2 x hx => ?_, fun i h1 h2 hx => ?_, fun i h1 h2 hn => ?_⟩
    · have := h.f _ x hx
      rw [fieldO_at w h1] at this
      exact this
    · have := h.m o.names[i]
      rw [fieldO_at w h1] at this
      cases hm : o.must[i] with
      | false => rfl
      | true => exact absurd hx (this hm)
    · have := h.f v.keys[i] v.items[i] (getL_at hu h1 h2 rfl)
      rw [fieldO_out hn] at this
      exact this
theorem inT_laid0 {v : Val} (hv : VOk v) : InT tyLaid v := by
  cases hv with | mk lo hi num num' text text' items keys len rise all =>
  rcases (show v.kind = 0 ∨ v.kind = 1 ∨ v.kind = 2 ∨ v.kind = 3 ∨ v.kind = 4 ∨ v.kind = 5 ∨ v.kind = 6 by omega) with k | k | k | k | k | k | k
  · exact .null k rfl
  · exact .fls k rfl
  · exact .tru k rfl
  · exact .num k (Nat.zero_lt_succ 0) ⟨fun h => absurd rfl h, fun h => absurd rfl h⟩
  · exact .anyText k rfl
  · exact .arr k (Nat.zero_lt_succ 0) (Int.natCast_nonneg _) (fun h => absurd h (by decide)) fun x _ => .all rfl
  · exact .obj (o := obOpen) k (List.mem_singleton.2 rfl) (fun i h => absurd h (Nat.not_lt_zero i)) (fun i h => absurd h (Nat.not_lt_zero i)) fun i h h' _ => .all rfl
theorem inT_laid {t : Ty} {v : Val} (hv : VOk v) : InT t v ↔ InT (laid t) v := by
  unfold laid
  split
  · rename_i h; exact ⟨fun _ => inT_laid0 hv, fun _ => .all h⟩
  · exact .rfl
theorem laid_notAll (t : Ty) : (laid t).all = false := by
  unfold laid
  split
  · rfl
  · rename_i h; simpa using h
theorem kinds_zero {t : Ty} (h : kinds t = 0) : t.all = false ∧ t.null = false ∧ t.fls = false ∧ t.tru = false ∧ t.nums = [] ∧ t.anyText = false ∧ t.texts = [] ∧ t.arrays = [] ∧ t.objects = [] := by
  unfold kinds at h
  split at h
  · cases h
  · rename_i ha
    unfold kN at h
    refine ⟨by simpa using ha, ?_, ?_, ?_, ?_, ?_, ?_, ?_, ?_⟩
    · cases hx : t.null with
      | false => rfl
      | true => rw [hx] at h; simp at h
    · cases hx : t.fls with
      | false => rfl
      | true => rw [hx] at h; simp at h
    · cases hx : t.tru with
      | false => rfl
      | true => rw [hx] at h; simp at h
    · cases hx : t.nums with
      | nil => rfl
      | cons a l => rw [hx] at h; simp at h
    · cases hx : t.anyText with
      | false => rfl
      | true => rw [hx] at h; simp at h
    · cases hx : t.texts with
      | nil => rfl
      | cons a l => rw [hx] at h; simp at h
    · cases hx : t.arrays with
      | nil => rfl
      | cons a l => rw [hx] at h; simp at h
    · cases hx : t.objects with
      | nil => rfl
      | cons a l => rw [hx] at h; simp at h
theorem not_inT_never {t : Ty} {v : Val} (h : kinds t = 0) : ¬InT t v := by
  obtain ⟨h0, h1, h2, h3, h4, h5, h6, h7, h8⟩ := kinds_zero h
  intro hi
  cases hi with
  | num k l h => rw [h4] at l; cases l
  | arr k l => rw [h7] at l; cases l
  | all => simp_all
  | null => simp_all
  | fls => simp_all
  | tru => simp_all
  | anyText => simp_all
  | text => simp_all
  | obj => simp_all

theorem spanIn_in {a b : Sp} {n : ByteArray} (ha : SpOk a) (hb : SpOk b) (hn : NumOk n) (h : SpanIn a b) (hi : InSp n a) : InSp n b := by
  have tr := num_TO.trans
  have an := num_TO.anti
  have nz : ∀ {s : ByteArray}, BoundOk s → s ≠ ⟨#[]⟩ → NumOk s := fun h1 h2 => h1.resolve_left h2
  rcases h with h | ⟨h1, h2⟩
  · have l := hi.low h.1
    have u := hi.high h.2.1
    have al := nz ha.1 h.1
    have ah := nz ha.2 h.2.1
    have := tr _ _ _ al hn ah (by have := an _ _ hn al; omega) u
    have := h.2.2
    omega
  · constructor
    · intro hl
      rcases h1 with h1 | ⟨h1, h3⟩
      · exact absurd h1 hl
      · have al := nz ha.1 h1
        have bl := nz hb.1 hl
        have l := hi.low h1
        have := tr _ _ _ bl al hn h3 (by have := an _ _ hn al; omega)
        have := an _ _ hn bl
        omega
    · intro hu
      rcases h2 with h2 | ⟨h2, h3⟩
      · exact absurd h2 hu
      · exact tr _ _ _ hn (nz ha.2 h2) (nz hb.2 hu) (hi.high h2) h3
theorem vok_items {v : Val} (h : VOk v) : ∀ x ∈ v.items, VOk x := by cases h; assumption
theorem vok_get {v : Val} (h : VOk v) {n : ByteArray} {x : Val} (hg : v.get n = some x) : VOk x := vok_items h _ (getL_mem hg)
theorem LiesP.every {x y : Ob} (h : LiesP x y) (n : ByteArray) : BelowP (fieldO x n).1 (fieldO y n).1 := by
  by_cases hn : Names2 x y n
  · exact h.field n hn
  · have h1 : n ∉ x.names := fun e => hn (.inl e)
    have h2 : n ∉ y.names := fun e => hn (.inr e)
    rw [fieldO_out h1, fieldO_out h2]
    exact h.rest
theorem LiesP.musts {x y : Ob} (h : LiesP x y) {n : ByteArray} (hm : (fieldO y n).2 = true) : (fieldO x n).2 = true := h.must n (.inr (fieldO_must hm)) hm

theorem bw_nums {t : Ty} (h : Bw t) : ∀ s ∈ t.nums, SpOk s := by cases h; assumption
theorem bw_item {t : Ty} (h : Bw t) : ∀ a ∈ t.arrays, Bw a.item := by cases h; assumption
theorem bw_obj {t : Ty} (h : Bw t) : ∀ o ∈ t.objects, ObW o := by cases h; assumption
theorem bw_rest {t : Ty} (h : Bw t) : ∀ o ∈ t.objects, Bw o.rest := by cases h; assumption

theorem below_in {a b : Ty} (h : BelowP a b) : Bw a → Bw b → ∀ v, VOk v → InT a v → InT b v := by
  induction h with
  | never h => exact fun _ _ v _ hi => absurd hi (not_inT_never h)
  | all h => exact fun _ _ v _ _ => .all h
  | @mk a b w n t al ar it pick pm mu fl rs iht ihf ihr =>
    intro wa wb v hv hi
    have hi := (inT_laid hv).1 hi
    have wl := wa.laid
    have na := laid_notAll a
    by_cases hb : b.all = true
    · exact .all hb
    have hb : b.all = false := by simpa using hb
    have hv' := hv
    cases hv with | mk lo hi' num num' text text' items keys len rise all =>
    rcases (show v.kind = 0 ∨ v.kind = 1 ∨ v.kind = 2 ∨ v.kind = 3 ∨ v.kind = 4 ∨ v.kind = 5 ∨ v.kind = 6 by omega) with k | k | k | k | k | k | k
    · exact (inT_0 hb k).2 (w.1 ((inT_0 na k).1 hi))
    · exact (inT_1 hb k).2 (w.2.1 ((inT_1 na k).1 hi))
    · exact (inT_2 hb k).2 (w.2.2 ((inT_2 na k).1 hi))
    · obtain ⟨l, hs⟩ := (inT_3 na k).1 hi
      obtain ⟨l', hs'⟩ := n l
      exact (inT_3 hb k).2 ⟨l', spanIn_in (bw_nums wl _ (List.getElem_mem l)) (bw_nums wb _ (List.getElem_mem l')) (num k) hs' hs⟩
    · have h4 := (inT_4 na k).1 hi
      refine (inT_4 hb k).2 ?_
      rcases t with t | ⟨t1, t2⟩
      · exact .inl t
      · rcases h4 with h4 | h4
        · rw [t1] at h4; cases h4
        · exact .inr (t2 _ h4)
    · obtain ⟨l, hs⟩ := (inT_5 na k).1 hi
      have l' := al l
      have hr := ar l l'
      refine (inT_5 hb k).2 ⟨l', by have := hs.min; have := hr.min; omega, fun h => ?_, fun x hx => ?_⟩
      · have h1 := hr.max h
        have := hs.max h1.1
        omega
      · by_cases hz : (laid a).arrays[0].max = 0
        · have := hs.max (by omega)
          have : 0 < v.items.length := List.length_pos_of_mem hx
          omega
        · exact iht l l' hz (bw_item wl _ (List.getElem_mem l)) (bw_item wb _ (List.getElem_mem l')) x (all x hx) (hs.item x hx)
    · obtain ⟨x, hx, ho⟩ := (inT_6 na k).1 hi
      have hy := pm x hx
      have wx := bw_obj wl x hx
      have wy := bw_obj wb _ hy
      have hF := (inOb_iff hv' k wx).1 ho
      refine (inT_6 hb k).2 ⟨pick x, hy, (inOb_iff hv' k wy).2 ⟨fun m y hg => ?_, fun m hm => hF.m m (mu x hx m (.inr (fieldO_must hm)) hm)⟩⟩
      have hf := hF.f m y hg
      by_cases hn : Names2 x (pick x) m
      · exact ihf x hx m hn (wl.fieldO hx m) (wb.fieldO hy m) y (vok_get hv' hg) hf
      · have h1 : m ∉ x.names := fun e => hn (.inl e)
        have h2 : m ∉ (pick x).names := fun e => hn (.inr e)
        rw [fieldO_out h1] at hf
        rw [fieldO_out h2]
        exact ihr x hx (bw_rest wl x hx) (bw_rest wb _ hy) y (vok_get hv' hg) hf
end Go.Ab
set_option linter.unusedVariables false
set_option linter.unusedSimpArgs false
namespace Go.Ab
/-! ### Apart: no value of both -/
theorem lower_low {a b : ByteArray} {n : ByteArray} (ha : a ≠ ⟨#[]⟩ → 0 ≤ numCmp n a) (hb : b ≠ ⟨#[]⟩ → 0 ≤ numCmp n b) : lowerS a b ≠ ⟨#[]⟩ → 0 ≤ numCmp n (lowerS a b) := by
  unfold lowerS
  split
  · exact hb
  · exact ha
theorem upper_high {a b : ByteArray} {n : ByteArray} (ha : a ≠ ⟨#[]⟩ → numCmp n a ≤ 0) (hb : b ≠ ⟨#[]⟩ → numCmp n b ≤ 0) : upperS a b ≠ ⟨#[]⟩ → numCmp n (upperS a b) ≤ 0 := by
  unfold upperS
  split
  · exact hb
  · exact ha
theorem lowerS_ok {a b : ByteArray} (ha : BoundOk a) (hb : BoundOk b) : BoundOk (lowerS a b) := by
  unfold lowerS; split <;> assumption
theorem upperS_ok {a b : ByteArray} (ha : BoundOk a) (hb : BoundOk b) : BoundOk (upperS a b) := by
  unfold upperS; split <;> assumption
theorem hollow_none {s : Sp} {n : ByteArray} (hs : SpOk s) (hn : NumOk n) (h : Hollow s) (hi : InSp n s) : False := by
  have l := hi.low h.1
  have u := hi.high h.2.1
  have al := hs.1.resolve_left h.1
  have ah := hs.2.resolve_left h.2.1
  have := num_TO.trans _ _ _ al hn ah (by have := num_TO.anti _ _ hn al; omega) u
  have := h.2.2
  omega
theorem apart_no {a b : Ty} (h : ApartP a b) : Bw a → Bw b → ∀ v, VOk v → InT a v → InT b v → False := by
  induction h with
  | @mk a b w n t ln it at' an am af iht ihf =>
    intro wa wb v hv ia ib
    have ia := (inT_laid hv).1 ia
    have ib := (inT_laid hv).1 ib
    have wla := wa.laid
    have wlb := wb.laid
    have na := laid_notAll a
    have nb := laid_notAll b
    have hv' := hv
    cases hv with | mk lo hi' num num' text text' items keys len rise all =>
    rcases (show v.kind = 0 ∨ v.kind = 1 ∨ v.kind = 2 ∨ v.kind = 3 ∨ v.kind = 4 ∨ v.kind = 5 ∨ v.kind = 6 by omega) with k | k | k | k | k | k | k
    · exact w.1 ⟨(inT_0 na k).1 ia, (inT_0 nb k).1 ib⟩
    · exact w.2.1 ⟨(inT_1 na k).1 ia, (inT_1 nb k).1 ib⟩
    · exact w.2.2 ⟨(inT_2 na k).1 ia, (inT_2 nb k).1 ib⟩
    · obtain ⟨l, hs⟩ := (inT_3 na k).1 ia
      obtain ⟨l', hs'⟩ := (inT_3 nb k).1 ib
      have sa := bw_nums wla _ (List.getElem_mem l)
      have sb := bw_nums wlb _ (List.getElem_mem l')
      exact hollow_none ⟨lowerS_ok sa.1 sb.1, upperS_ok sa.2 sb.2⟩ (num k) (n l l') ⟨lower_low hs.low hs'.low, upper_high hs.high hs'.high⟩
    · have h1 := (inT_4 na k).1 ia
      have h2 := (inT_4 nb k).1 ib
      cases xa : (laid a).anyText with
      | true =>
        obtain ⟨p, q, r⟩ := t.1 (.inl xa)
        rcases h2 with h2 | h2
        · exact p ⟨xa, h2⟩
        · rw [r] at h2; cases h2
      | false =>
        rcases h1 with h1 | h1
        · rw [xa] at h1; cases h1
        · cases xb : (laid b).anyText with
          | true =>
            obtain ⟨p, q, r⟩ := t.1 (.inr xb)
            rw [q] at h1; cases h1
          | false =>
            rcases h2 with h2 | h2
            · rw [xb] at h2; cases h2
            · exact t.2 xa xb _ h1 h2
    · obtain ⟨l, hs⟩ := (inT_5 na k).1 ia
      obtain ⟨l', hs'⟩ := (inT_5 nb k).1 ib
      have hle : leastA (laid a).arrays[0] (laid b).arrays[0] ≤ v.items.length := by
        unfold leastA
        have := hs.min
        have := hs'.min
        split <;> assumption
      have hno : ¬NoLen (laid a).arrays[0] (laid b).arrays[0] := by
        rintro (h | h)
        · have := hs.max h.1; omega
        · have := hs'.max h.1; omega
      have hpos : 0 < v.items.length := by have := ln l l' hno; omega
      have hm := List.getElem_mem hpos
      exact iht l l' hno (bw_item wla _ (List.getElem_mem l)) (bw_item wlb _ (List.getElem_mem l')) _ (all _ hm) (hs.item _ hm) (hs'.item _ hm)
    · obtain ⟨x, hx, ho⟩ := (inT_6 na k).1 ia
      obtain ⟨y, hy, ho'⟩ := (inT_6 nb k).1 ib
      have wx := bw_obj wla x hx
      have wy := bw_obj wlb y hy
      have hF := (inOb_iff hv' k wx).1 ho
      have hF' := (inOb_iff hv' k wy).1 ho'
      have hne : v.get (at' x y) ≠ none := (am x hx y hy).elim (hF.m _) (hF'.m _)
      cases hg : v.get (at' x y) with
      | none => exact hne hg
      | some z => exact ihf x hx y hy (wla.fieldO hx _) (wlb.fieldO hy _) z (vok_get hv' hg) (hF.f _ z hg) (hF'.f _ z hg)
end Go.Ab
