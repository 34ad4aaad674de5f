import Derived.Test.YtjggngbfmjneiaaDoorAbP
set_option linter.unusedVariables false
set_option linter.unusedSimpArgs false
namespace Go.Ab
section
variable {P : Program} {T : Tab}

/-! ### Bounds of what is read -/
inductive D.Bd : D → Prop where
  | lit (v : Value) (h : litOk v = true) : D.Bd (.lit v)
  | sl (rows : List (List D)) (h : rows.length ≤ maxRows) (hr : ∀ i j, i < rows.length → j < (rows.getD i []).length → D.Bd ((rows.getD i []).getD j default)) : D.Bd (.sl rows)

theorem RepD.bd {F : Mem} {v : Value} {x : D} (h : RepD F v x) : x.Bd := by
  induction h with
  | lit v h => exact .lit v h
  | sl a cap sz rows vals hrow hlen hcap ha hr ih =>
    exact .sl rows hlen fun i j hi hj => ih i j hi (by rw [getD_row hrow hi] at hj; exact hj)

def V.Bd : V → Prop
  | .d x => x.Bd
  | .gs _ rows => (D.sl rows).Bd
  | .xs rows => (D.sl rows).Bd
  | .rp cells => ∀ j : Nat, j < cells.length → D.Bd (cells.getD j default)
  | .agg cells => ∀ (j : Nat) (x : D), cells[j]? = some (V.d x) → x.Bd
  | _ => True

theorem Rep.bd {F : Mem} {M : Pls} {v : Value} {x : V} (h : Rep F M v x) : x.Bd := by
  cases h with
  | d h => exact h.bd
  | gs h => exact h.bd
  | xs h => exact h.bd
  | rp a cells vals hf hr => exact fun j hj => (hr j hj).bd
  | agg cs cells hs hr =>
    intro j x hx
    have hj := (List.getElem?_eq_some_iff.1 hx).1
    have := hr j hj
    rw [List.getD_eq_getElem?_getD, hx] at this
    generalize cs.getD j undef = u at this
    cases this with
    | d h => exact h.bd
  | _ => trivial

/-- What is known of the arguments may be used. -/
theorem SCall.bd {k : FuncId} {args : List V} {H : List O} {Q : V → List O → Prop} (he : Enters P k) (h : (∀ j, j < args.length → (args.getD j .any).Bd) → SCall P k args H Q) : SCall P k args H Q :=
  ⟨he, fun F M w vals hi hr => (h fun j hj => (hr.2 j hj).bd).calls F M w vals hi hr⟩

theorem PCall.bd {k : FuncId} {args : List V} {r : V} {fn : Func} {c : Code} (hf : P.funcs[k]? = some fn) (hb : fn.body = some c) (hn : (fn.name == "runtime.NumGoroutine") = false) (hr : r.pure = true) (ha : pures args = true)
    (h : (∀ j, j < args.length → (args.getD j .any).Bd) → PCall P k args r) : PCall P k args r :=
  ⟨hr, ha, SCall.bd (enters_of hf hb hn) fun b => (h b).call⟩

theorem D.Bd.len {rows : List (List D)} (h : D.Bd (.sl rows)) : rows.length ≤ maxRows := by cases h; assumption
theorem D.Bd.row {rows : List (List D)} (h : D.Bd (.sl rows)) {r : List D} (hr : r ∈ rows) : ∀ x ∈ r, x.Bd := by
  cases h with
  | sl _ _ h =>
    intro x hx
    obtain ⟨i, hi, rfl⟩ := List.mem_iff_getElem.1 hr
    obtain ⟨j, hj, rfl⟩ := List.mem_iff_getElem.1 hx
    have e : rows.getD i [] = rows[i] := by simp [List.getD_eq_getElem?_getD, hi]
    have := h i j hi (by rw [e]; exact hj)
    rw [e] at this
    simpa [List.getD_eq_getElem?_getD, hj] using this
theorem D.Bd.str {s : ByteArray} (h : D.Bd (.lit (.string s))) : s.size ≤ 4611686018427387904 := by
  cases h with
  | lit _ h => simpa [litOk] using h
end
end Go.Ab
