import Derived.Test.YtjggngbfmjneiaaGreatPG
set_option linter.unusedVariables false
set_option linter.unusedSimpArgs false
namespace Go.Ab
/-! ### Values of JSON -/
inductive Val where
  | mk (kind : Int) (num text : ByteArray) (items : List Val) (keys : List ByteArray)
namespace Val
def kind : Val → Int | mk a _ _ _ _ => a
def num : Val → ByteArray | mk _ a _ _ _ => a
def text : Val → ByteArray | mk _ _ a _ _ => a
def items : Val → List Val | mk _ _ _ a _ => a
def keys : Val → List ByteArray | mk _ _ _ _ a => a
theorem item_lt {v x : Val} (h : x ∈ v.items) : SizeOf.sizeOf x < SizeOf.sizeOf v := by
  cases v with | mk k n t is ks =>
  have := List.sizeOf_lt_of_mem (show x ∈ is from h)
  simp only [Val.mk.sizeOf_spec]
  omega
theorem ind {p : Val → Prop} (h : ∀ v, (∀ x ∈ v.items, p x) → p v) : ∀ v, p v := by
  intro v
  generalize hn : SizeOf.sizeOf v = n
  induction n using Nat.strongRecOn generalizing v with
  | _ n ih =>
    subst hn
    exact h v (fun x hx => ih _ (item_lt hx) _ rfl)
end Val
mutual
def Val.cells : Val → List D
  | .mk kind num text items keys => [.lit (.int .i64 kind), .lit (.string num), .lit (.string text), .sl (Val.cellsL items), .sl (keys.map strC)]
def Val.cellsL : List Val → List (List D)
  | [] => []
  | t :: l => Val.cells t :: Val.cellsL l
end
theorem Val.cellsL_eq : ∀ l : List Val, Val.cellsL l = l.map Val.cells
  | [] => rfl
  | t :: l => by simp [Val.cellsL, Val.cellsL_eq l]
def Val.lay (t : Val) : List D := [.lit (.int .i64 t.kind), .lit (.string t.num), .lit (.string t.text), .sl (t.items.map Val.cells), .sl (t.keys.map strC)]
theorem Val.cells_eq (t : Val) : t.cells = t.lay := by cases t; simp [Val.cells, Val.lay, Val.cellsL_eq, Val.kind, Val.num, Val.text, Val.items, Val.keys]
def vVal (t : Val) : V := .agg [.d (.lit (.int .i64 t.kind)), .d (.lit (.string t.num)), .d (.lit (.string t.text)), .d (.sl (t.items.map Val.cells)), .d (.sl (t.keys.map strC))]
def vVals (l : List Val) : V := .d (.sl (l.map Val.cells))
theorem row_Val (l : List Val) (i : Nat) (h : i < l.length) : (l.map Val.cells).getD i [] = (l[i]'h).lay := by rw [row_at, Val.cells_eq]
theorem idxVal {l : List Val} {k n : Nat} {K : V → List O → Prop} {H : List O} (h : k < l.length) (hn : 5 = n) (hk : K (.rp (l[k]'h).lay) H) : IdxS (l.map Val.cells) (k : Int) n K H :=
  idx_nat (by simpa using h) (row_Val l k h) hn (by subst hn; decide) hk

/-! ### All that is read is bounded -/
def DeepV (v : Val) : Prop := ∀ x ∈ v.lay, x.Bd
theorem deepV_of {v : Val} (h : (vVal v).Bd) : DeepV v := by
  intro x hx
  obtain ⟨j, hj, rfl⟩ := List.mem_iff_getElem.1 hx
  refine h j _ ?_
  show (v.lay.map V.d)[j]? = _
  simp [hj]
theorem deepV_item {v : Val} (h : DeepV v) {x : Val} (hx : x ∈ v.items) : DeepV x := by
  have h4 : (D.sl (v.items.map Val.cells)).Bd := h _ (by simp [Val.lay])
  exact h4.row (List.mem_map.2 ⟨x, hx, Val.cells_eq x⟩)
structure Val.Bd (v : Val) : Prop where
  items : v.items.length ≤ maxRows
  keys : v.keys.length ≤ maxRows
  strs : ∀ s ∈ v.keys, s.size ≤ 4611686018427387904
  num : v.num.size ≤ 4611686018427387904
  text : v.text.size ≤ 4611686018427387904
theorem DeepV.bd {v : Val} (h : DeepV v) : v.Bd := by
  have h1 : (D.sl (v.items.map Val.cells)).Bd := h _ (by simp [Val.lay])
  have h2 := bd_strs (h (.sl (v.keys.map strC)) (by simp [Val.lay]))
  exact ⟨by simpa using h1.len, h2.1, h2.2, (h (.lit (.string v.num)) (by simp [Val.lay])).str, (h (.lit (.string v.text)) (by simp [Val.lay])).str⟩

/-! ### How many parts a value has, up to a bound -/
mutual
def Val.pt : Val → Int → Int
  | .mk _ _ _ items keys, m => Val.ptL items 1 m + keys.length
def Val.ptL : List Val → Int → Int → Int
  | [], n, _ => n
  | a :: l, n, m => if n ≤ m then Val.ptL l (n + Val.pt a (m - n)) m else n
end
theorem Val.pt_eq (v : Val) (m : Int) : v.pt m = Val.ptL v.items 1 m + v.keys.length := by cases v; simp [Val.pt, Val.items, Val.keys]
def capV (m : Int) : Int := (m + 1) * 281474976710656
structure PtV (v : Val) (m : Int) : Prop where
  one : 1 ≤ v.pt m
  cap : v.pt m ≤ capV m
theorem ptVal {m : Int} (h0 : 0 ≤ m) (hm : m ≤ 20000) : ∀ (l : List Val) (n : Int), (∀ a ∈ l, ∀ k, 0 ≤ k → k < m → PtV a k) → 1 ≤ n → n ≤ m * 281474976710656 + 1 →
    n ≤ Val.ptL l n m ∧ Val.ptL l n m ≤ m * 281474976710656 + 1
  | [], n, _, h1, h2 => by simp only [Val.ptL]; omega
  | a :: l, n, h, h1, h2 => by
    rw [Val.ptL]
    by_cases hn : n ≤ m
    · rw [if_pos hn]
      have ha := h a (List.mem_cons_self ..) (m - n) (by omega) (by omega)
      have c1 := ha.one
      have c2 := ha.cap
      simp only [capV] at c2
      have := ptVal h0 hm l (n + a.pt (m - n)) (fun b hb => h b (List.mem_cons_of_mem _ hb)) (by omega) (by omega)
      omega
    · rw [if_neg hn]
      omega
theorem ptV_ok : ∀ v : Val, DeepV v → ∀ m : Int, 0 ≤ m → m ≤ 20000 → PtV v m := by
  intro v
  induction v using Val.ind with
  | h v ih =>
  intro hd m h0 hm
  have hb := hd.bd.keys
  simp only [maxRows] at hb
  have := ptVal h0 hm v.items 1 (fun a ha k h1 h2 => ih a ha (deepV_item hd ha) k h1 (by omega)) (by omega) (by omega)
  refine ⟨by rw [Val.pt_eq]; omega, by rw [Val.pt_eq]; simp only [capV]; omega⟩

/-! ### Well shaped values -/
inductive VOk : Val → Prop where
  | mk {v : Val} (lo : 0 ≤ v.kind) (hi : v.kind ≤ 6) (num : v.kind = 3 → NumOk v.num) (num' : v.kind ≠ 3 → v.num = ⟨#[]⟩) (text : v.kind = 4 → Utf v.text) (text' : v.kind ≠ 4 → v.text = ⟨#[]⟩)
      (items : v.kind < 5 → v.items.length = 0) (keys : v.kind < 6 → v.keys.length = 0) (len : v.kind = 6 → v.keys.length = v.items.length) (rise : v.kind = 6 → Rise v.keys) (all : ∀ x ∈ v.items, VOk x) : VOk v
theorem vok_iff {v : Val} : VOk v ↔ (0 ≤ v.kind ∧ v.kind ≤ 6) ∧ ((v.kind = 3 → NumOk v.num) ∧ (v.kind ≠ 3 → v.num = ⟨#[]⟩)) ∧ ((v.kind = 4 → Utf v.text) ∧ (v.kind ≠ 4 → v.text = ⟨#[]⟩)) ∧ ((v.kind < 5 → v.items.length = 0) ∧ (v.kind < 6 → v.keys.length = 0)) ∧ (v.kind = 6 → v.keys.length = v.items.length ∧ Rise v.keys) ∧ ∀ x ∈ v.items, VOk x :=
  ⟨fun h => by cases h with | mk a b c d e f g h i j k => exact ⟨⟨a, b⟩, ⟨c, d⟩, ⟨e, f⟩, ⟨g, h⟩, fun x => ⟨i x, j x⟩, k⟩,
   fun ⟨⟨a, b⟩, ⟨c, d⟩, ⟨e, f⟩, ⟨g, h⟩, i, k⟩ => .mk a b c d e f g h (fun x => (i x).1) (fun x => (i x).2) k⟩
end Go.Ab
