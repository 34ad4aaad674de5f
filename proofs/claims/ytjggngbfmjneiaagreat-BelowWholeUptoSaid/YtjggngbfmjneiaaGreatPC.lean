import Derived.Test.YtjggngbfmjneiaaGreatPB
set_option linter.unusedVariables false
set_option linter.unusedSimpArgs false
namespace Go.Ab

theorem ofNat_cast (n : Nat) : Int.ofNat n = (n : Int) := rfl
/-! ### Propositions as bools -/
@[irreducible] noncomputable def tt (p : Prop) : Bool := @decide p (Classical.propDecidable p)
theorem tt_iff {p : Prop} : tt p = true ↔ p := by unfold tt; exact @decide_eq_true_iff p (Classical.propDecidable p)
theorem tt_not {p : Prop} : tt p = false ↔ ¬p := by unfold tt; exact @decide_eq_false_iff_not p (Classical.propDecidable p)
theorem tt_t {p : Prop} (h : p) : true = tt p := (tt_iff.2 h).symm
theorem tt_f {p : Prop} (h : ¬p) : false = tt p := (tt_not.2 h).symm
theorem tt_eq {p : Prop} {b : Bool} (h : b = true ↔ p) : b = tt p := by
  cases b
  · exact tt_f fun k => by simpa using h.2 k
  · exact tt_t (h.1 rfl)
theorem tt_congr {p q : Prop} (h : p ↔ q) : tt p = tt q := congrArg tt (propext h)

theorem dlt {a b : Int} (h : decide (a < b) = true) : a < b := of_decide_eq_true h
theorem dge {a b : Int} (h : decide (a < b) = false) : b ≤ a := by have := of_decide_eq_false h; omega
theorem dle {a b : Int} (h : decide (a ≤ b) = true) : a ≤ b := of_decide_eq_true h
theorem dgt {a b : Int} (h : decide (a ≤ b) = false) : b < a := by have := of_decide_eq_false h; omega

theorem beqT {b c : Bool} (h : (b == true) = c) : b = c := by cases b <;> simpa using h
theorem beqF {b c : Bool} (h : (b == false) = c) : b = !c := by cases b <;> cases c <;> simp_all
theorem eqI {a b : Int} (h : (a == b) = true) : a = b := by simpa using h
theorem neI {a b : Int} (h : (a == b) = false) : a ≠ b := by simpa using h
theorem eqN {n k : Nat} (h : (Int.ofNat n == Int.ofNat k) = true) : n = k := Int.ofNat.inj (eqI h)
theorem neN {n k : Nat} (h : (Int.ofNat n == Int.ofNat k) = false) : n ≠ k := fun e => neI h (by rw [e])
theorem ltN {n k : Nat} (h : decide (Int.ofNat n < Int.ofNat k) = true) : n < k := Int.ofNat_lt.1 (of_decide_eq_true h)
theorem geN {n k : Nat} (h : decide (Int.ofNat n < Int.ofNat k) = false) : k ≤ n := Nat.le_of_not_lt fun j => of_decide_eq_false h (Int.ofNat_lt.2 j)
theorem leN {n k : Nat} (h : decide (Int.ofNat n ≤ Int.ofNat k) = true) : n ≤ k := Int.ofNat_le.1 (of_decide_eq_true h)
theorem gtN {n k : Nat} (h : decide (Int.ofNat n ≤ Int.ofNat k) = false) : k < n := Nat.lt_of_not_le fun j => of_decide_eq_false h (Int.ofNat_le.2 j)
/-! ### Bytes of a text -/
def bt (s : ByteArray) (i : Nat) : Nat := (s.data.toList.getD i 0).toNat
theorem bt_get {s : ByteArray} {i : Nat} (h : i < s.size) : (s[i]'h).toNat = bt s i := by
  unfold bt
  have h' : i < s.data.toList.length := by simpa using h
  have e : s.data.toList.getD i 0 = s[i]'h := by
    rw [List.getD_eq_getElem?_getD, List.getElem?_eq_getElem h']
    simp [ByteArray.getElem_eq_getElem_data]
  rw [e]
theorem bt_lt (s : ByteArray) (i : Nat) : bt s i < 256 := UInt8.toNat_lt _
theorem bt_out {s : ByteArray} {i : Nat} (h : s.size ≤ i) : bt s i = 0 := by
  unfold bt
  have h' : s.data.toList.length ≤ i := by simpa using h
  rw [List.getD_eq_getElem?_getD, List.getElem?_eq_none h']
  rfl
theorem size_extract (s : ByteArray) (a b : Nat) (h : b ≤ s.size) : (s.extract a b).size = b - a := by
  rw [ByteArray.size_extract]; omega
theorem bt_extract (s : ByteArray) (a b i : Nat) (hi : a + i < b) (hb : b ≤ s.size) : bt (s.extract a b) i = bt s (a + i) := by
  rw [← bt_get (s := s.extract a b) (i := i) (by rw [size_extract _ _ _ hb]; omega), ← bt_get (s := s) (i := a + i) (by omega)]
  congr 1
  rw [ByteArray.getElem_extract]
theorem bt_tail {s : ByteArray} (i : Nat) : bt (s.extract 1 s.size) i = bt s (1 + i) := by
  by_cases h : 1 + i < s.size
  · exact bt_extract s 1 s.size i h (Nat.le_refl _)
  · rw [bt_out (s := s) (by omega), bt_out]
    rw [size_extract _ _ _ (Nat.le_refl _)]
    omega

theorem idxB {s : ByteArray} {i : Int} {k : Nat} {K : V → List O → Prop} {H : List O} (e : i = (k : Int)) (h : k < s.size) (hk : K (.d (.lit (.int .u8 (bt s k)))) H) : IdxStr s i K H := by
  subst e
  have e : ((k : Int)).toNat = k := by simp
  refine ⟨by omega, by rw [e]; exact h, ?_⟩
  have e2 : ((s[((k : Int)).toNat]'(by rw [e]; exact h)).toNat) = bt s k := by rw [← bt_get h]; simp
  rw [e2]
  exact hk

theorem strEq_iff {a b : ByteArray} : strEq a b = true ↔ a = b := by
  unfold strEq
  rw [beq_iff_eq]
  constructor
  · intro h
    have : a.data = b.data := Array.toList_inj.1 h
    cases a; cases b; simp_all
  · rintro rfl; rfl
theorem strEq_not {a b : ByteArray} : strEq a b = false ↔ a ≠ b := by rw [← Bool.not_eq_true, strEq_iff]

section
variable {P : Program} {T : Tab}
/-- A loop that counts, of which something is known. -/
theorem SExec.loop_p {c : Code} {s : St} {Q : Exit → St → Prop} (n : Nat) (I : Nat → Prop) (σ : Nat → St) (h0 : I 0) (hlen : ∀ k, s.hp.length ≤ (σ k).hp.length) (hs : s.subD (σ 0))
    (hr : ∀ k, k ≤ n → I k → SExec P c (σ k) (thenS (fun s' => (k < n ∧ I (k + 1)) ∧ s'.subD (σ (k + 1))) Q)) : SExec P (.loop c) s Q :=
  SExec.loop_i (ι := Nat) σ (fun k => k ≤ n ∧ I k) (fun k => n - k) 0 ⟨Nat.zero_le _, h0⟩ hlen hs fun k hk =>
    (hr k hk.1 hk.2).mono (thenS_mono fun s' ⟨h1, h2⟩ => ⟨k + 1, ⟨h1.1, h1.2⟩, by have := h1.1; show n - (k + 1) < n - k; omega, h2⟩)
end

/-- All up to k. -/
theorem upto_succ {p : Nat → Prop} {k : Nat} (h : ∀ i, i < k → p i) (hk : p k) : ∀ i, i < k + 1 → p i := by
  intro i hi
  rcases Nat.lt_succ_iff_lt_or_eq.1 hi with h1 | rfl
  · exact h i h1
  · exact hk
theorem upto_zero {p : Nat → Prop} : ∀ i, i < 0 → p i := fun i h => absurd h (Nat.not_lt_zero i)

theorem wrap8 {n : Int} (h : 0 ≤ n) (k : n < 256) : IntKind.u8.wrap n = n := by
  unfold IntKind.wrap; simp [IntKind.bits, IntKind.signed]; omega

def vU8 (n : Int) : V := .d (.lit (.int .u8 n))
/-! ### Texts, numbers, UTF-8: the document's words -/
def cmpS (a b : ByteArray) : Int := if strLt a b = true then -1 else if strEq a b = true then 0 else 1

def IsDig (b : Nat) : Prop := 48 ≤ b ∧ b ≤ 57
def digits (s : ByteArray) : ByteArray := if 0 < s.size ∧ bt s 0 = 45 then s.extract 1 s.size else s
def zeroS : ByteArray := ⟨#[48]⟩
structure NumOk (s : ByteArray) : Prop where
  digs : ∀ i, i < (digits s).size → IsDig (bt (digits s) i)
  some : 0 < (digits s).size
  zero : bt (digits s) 0 = 48 → s = zeroS

def numPos (a b : ByteArray) : Int := if a.size = b.size then cmpS a b else if a.size < b.size then -1 else 1
def tail1 (s : ByteArray) : ByteArray := s.extract 1 s.size
def numCmp (a b : ByteArray) : Int :=
  if bt a 0 = 45 then (if bt b 0 = 45 then numPos (tail1 b) (tail1 a) else -1) else (if bt b 0 = 45 then 1 else numPos a b)

structure Trail (s : ByteArray) (i n low high : Nat) : Prop where
  fits : i + n ≤ s.size
  all : ∀ k, k < n → 128 ≤ bt s (i + k) ∧ bt s (i + k) ≤ 191
  first : low ≤ bt s i ∧ bt s i ≤ high

def lowOf (c : Nat) : Nat := if c = 240 then 144 else if c = 224 then 160 else 128
def highOf (c : Nat) : Nat := if c = 244 then 143 else if c = 237 then 159 else 191
noncomputable def widc (s : ByteArray) (i c : Nat) : Nat :=
  if c < 128 then 1 else if 194 ≤ c ∧ c ≤ 223 ∧ tt (Trail s (i + 1) 1 128 191) = true then 2 else if 224 ≤ c ∧ c ≤ 239 ∧ tt (Trail s (i + 1) 2 (lowOf c) (highOf c)) = true then 3
  else if 240 ≤ c ∧ c ≤ 244 ∧ tt (Trail s (i + 1) 3 (lowOf c) (highOf c)) = true then 4 else 0
@[irreducible] noncomputable def wid (s : ByteArray) (i : Nat) : Nat := widc s i (bt s i)
theorem wid_eq {s : ByteArray} {i c : Nat} (h : bt s i = c) : wid s i = widc s i c := by unfold wid; rw [h]

/-- From i on it is UTF-8. -/
inductive UtfFrom (s : ByteArray) : Nat → Prop where
  | done {i : Nat} (h : s.size ≤ i) : UtfFrom s i
  | step {i : Nat} (h : i < s.size) (hw : 0 < wid s i) (k : UtfFrom s (i + wid s i)) : UtfFrom s i
def Utf (s : ByteArray) : Prop := UtfFrom s 0

structure Rise (l : List ByteArray) : Prop where
  utf : ∀ s ∈ l, Utf s
  up : ∀ i (h : i + 1 < l.length), strLt (l[i]'(by omega)) l[i + 1] = true

theorem NumOk.pos {s : ByteArray} (h : NumOk s) : 0 < s.size := by
  have := h.some
  unfold digits at this
  split at this
  · rename_i e; exact e.1
  · exact this
theorem wid_le (s : ByteArray) (i : Nat) : wid s i ≤ 4 := by
  unfold wid widc
  repeat' split
  all_goals omega
theorem utf_step {s : ByteArray} {i : Nat} (h : i < s.size) (hw : 0 < wid s i) : UtfFrom s (i + wid s i) ↔ UtfFrom s i :=
  ⟨fun k => .step h hw k, fun k => by cases k with | done h' => omega | step _ _ k => exact k⟩
theorem utf_bad {s : ByteArray} {i : Nat} (h : i < s.size) (hw : wid s i = 0) : ¬UtfFrom s i := fun k => by cases k with | done h' => omega | step _ h' _ => omega
theorem digits_le (s : ByteArray) : (digits s).size ≤ s.size := by
  unfold digits
  split
  · rw [size_extract _ _ _ (Nat.le_refl _)]; omega
  · exact Nat.le_refl _
theorem NumOk.tail {s : ByteArray} (h : NumOk s) (hm : bt s 0 = 45) : 0 < (tail1 s).size ∧ bt (tail1 s) 0 ≠ 45 := by
  have hd : digits s = tail1 s := if_pos ⟨h.pos, hm⟩
  have h1 := h.some
  have h2 := h.digs 0 h1
  rw [hd] at h1 h2
  exact ⟨h1, fun e => by have := h2.1; omega⟩

structure Sp.Ok (s : Sp) : Prop where
  low : s.low = ⟨#[]⟩ ∨ NumOk s.low
  high : s.high = ⟨#[]⟩ ∨ NumOk s.high
  order : s.low ≠ ⟨#[]⟩ → s.high ≠ ⟨#[]⟩ → numCmp s.low s.high ≤ 0
structure SpansOk (l : List Sp) : Prop where
  len : l.length ≤ 1
  ok : ∀ s ∈ l, s.Ok
def BoundOk (s : ByteArray) : Prop := s = ⟨#[]⟩ ∨ NumOk s

/-! ### Well shaped types -/
structure Bare (t : Ty) : Prop where
  null : t.null = false
  fls : t.fls = false
  tru : t.tru = false
  anyText : t.anyText = false
  nums : t.nums.length = 0
  texts : t.texts.length = 0
  arrays : t.arrays.length = 0
  objects : t.objects.length = 0
theorem bare_iff {t : Ty} : Bare t ↔ t.null = false ∧ t.fls = false ∧ t.tru = false ∧ t.anyText = false ∧ t.nums.length = 0 ∧ t.texts.length = 0 ∧ t.arrays.length = 0 ∧ t.objects.length = 0 :=
  ⟨fun ⟨a, b, c, d, e, f, g, h⟩ => ⟨a, b, c, d, e, f, g, h⟩, fun ⟨a, b, c, d, e, f, g, h⟩ => ⟨a, b, c, d, e, f, g, h⟩⟩
structure Never (t : Ty) : Prop where
  all : t.all = false
  bare : Bare t
structure ArOk (a : Ar) : Prop where
  min : 0 ≤ a.min
  max : -1 ≤ a.max
  le : 0 ≤ a.max → a.min ≤ a.max
  never : Never a.item ↔ a.max = 0
structure ObOk (o : Ob) : Prop where
  fields : o.names.length = o.fields.length
  must : o.names.length = o.must.length
  rise : Rise o.names
  never : ∀ i (h : i < o.fields.length) (h' : i < o.must.length), o.must[i] = true → ¬Never o.fields[i]
inductive Formed : Ty → Prop where
  | mk {t : Ty} (bare : t.all = true → Bare t) (texts : Rise t.texts) (any : t.anyText = true → t.texts.length = 0) (nums : SpansOk t.nums) (one : t.arrays.length ≤ 1)
      (arr : ∀ a ∈ t.arrays, ArOk a) (item : ∀ a ∈ t.arrays, Formed a.item) (obj : ∀ o ∈ t.objects, ObOk o) (rest : ∀ o ∈ t.objects, Formed o.rest) (field : ∀ o ∈ t.objects, ∀ f ∈ o.fields, Formed f) : Formed t
structure ArsOk (l : List Ar) : Prop where
  one : l.length ≤ 1
  arr : ∀ a ∈ l, ArOk a
  item : ∀ a ∈ l, Formed a.item
structure ObF (o : Ob) : Prop where
  obj : ObOk o
  rest : Formed o.rest
  field : ∀ f ∈ o.fields, Formed f
theorem formed_iff {t : Ty} : Formed t ↔ (t.all = true → Bare t) ∧ Rise t.texts ∧ (t.anyText = true → t.texts.length = 0) ∧ SpansOk t.nums ∧ ArsOk t.arrays ∧ ∀ o ∈ t.objects, ObF o :=
  ⟨fun h => by cases h with | mk a b c d e f g h i j => exact ⟨a, b, c, d, ⟨e, f, g⟩, fun o ho => ⟨h o ho, i o ho, j o ho⟩⟩,
   fun ⟨a, b, c, d, e, f⟩ => .mk a b c d e.one e.arr e.item (fun o ho => (f o ho).obj) (fun o ho => (f o ho).rest) (fun o ho => (f o ho).field)⟩
end Go.Ab
