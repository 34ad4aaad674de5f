import Derived.Test.YtjggngbfmjneiaaDoorAbC
set_option linter.unusedVariables false
set_option linter.unusedSimpArgs false
namespace Go.Ab
section
variable {P : Program}

/-! ### Heads: what a value is -/
def D.oneC : D → Bool
  | .lit v => v.oneCell'
  | .sl _ => true
def V.oneC : V → Bool
  | .d x => x.oneC
  | .agg _ | .tup _ | .any => false
  | _ => true

theorem RepD.oneC {F : Mem} {v : Value} {x : D} (h : RepD F v x) (hx : x.oneC = true) : v.oneCell' = true := by
  cases h with
  | lit v h => exact hx
  | sl => rfl
theorem Rep.oneC {F : Mem} {M : Pls} {v : Value} {x : V} (h : Rep F M v x) (hx : x.oneC = true) : v.oneCell' = true := by
  cases h with
  | d h => exact h.oneC hx
  | gs h => cases h; rfl
  | any => simp [V.oneC] at hx
  | agg => simp [V.oneC] at hx
  | tup => simp [V.oneC] at hx
  | _ => rfl

def cellsV : V → List V
  | .agg cs => cs
  | v => [v]

theorem Rep.cells {F : Mem} {M : Pls} {v : Value} {x : V} (h : Rep F M v x) (hx : (cellsV x).all V.oneC = true) :
    v.cells.size = (cellsV x).length ∧ (∀ j, j < (cellsV x).length → Rep F M (v.cells.getD j undef) ((cellsV x).getD j .any)) ∧ (∀ j, j < (cellsV x).length → (v.cells.getD j undef).oneCell' = true) := by
  by_cases hagg : ∃ cs, x = .agg cs
  · obtain ⟨cells, rfl⟩ := hagg
    cases h with
    | agg cs _ hs hr =>
      refine ⟨hs, hr, fun j hj => (hr j hj).oneC ?_⟩
      simp only [cellsV] at hx hj ⊢
      have := List.all_eq_true.1 hx (cells.getD j .any) (by simp [List.getD_eq_getElem?_getD, hj])
      exact this
  · have hc : cellsV x = [x] := by cases x <;> first | rfl | (exfalso; exact hagg ⟨_, rfl⟩)
    rw [hc] at hx ⊢
    simp at hx
    have h1 := h.oneC hx
    have hv : v.cells = #[v] := by cases v <;> simp_all [Value.cells, Value.oneCell']
    rw [hv]
    refine ⟨rfl, fun j hj => ?_, fun j hj => ?_⟩
    · simp at hj; subst hj; exact h
    · simp at hj; subst hj; exact h1

/-! ### Loads -/
theorem tyIs_agg {t : TypeId} {agg : Bool} {n : Nat} (h : TyIs P t agg n) (w : World) : (isAgg t).run P w = .ok agg w := by
  obtain ⟨h1, h2⟩ := h
  cases hu : P.underlying t with
  | none => simp [hu] at h1
  | some d =>
    simp [hu] at h1
    unfold isAgg
    rw [Sem.run_bind, run_underlying hu w]
    subst h1
    cases d <;> rfl
theorem tyIs_size {t : TypeId} {agg : Bool} {n : Nat} (h : TyIs P t agg n) (w : World) : (sizeOf t).run P w = .ok n w := by
  obtain ⟨h1, h2⟩ := h
  cases hi : P.info? t with
  | none => simp [hi] at h2
  | some i => simp [hi] at h2; simp [sizeOf, typeInfo, hi, h2]

theorem add_lit (b o k : Nat) : (⟨b, o, none⟩ : Addr).add k = ⟨b, o + k, none⟩ := by unfold Addr.add; split <;> simp_all

theorem run_loadVar_cells {t : TypeId} {n : Nat} (ht : TyIs P t true n) (w : World) (a : Addr) (f : Nat → Value) (h : ∀ j, j < n → w.cell? (a.add j) = some (f j)) :
    (loadVar t a).run P w = .ok (.agg ((List.range n).map f).toArray) w := by
  have h1 := tyIs_agg ht w
  have h2 := tyIs_size ht w
  have h3 := run_loadCells (P := P) w a n f h
  simp [loadVar, Sem.run_bind, h1, h2, h3]

theorem run_loadVar_cell {t : TypeId} {n : Nat} (ht : TyIs P t false n) (w : World) (a : Addr) (v : Value) (h : w.cell? a = some v) :
    (loadVar t a).run P w = .ok v w := by
  have h1 := tyIs_agg ht w
  simp [loadVar, Sem.run_bind, h1, run_load, h]

theorem loadA_sound {F : Mem} {M : Pls} {w : World} {H : List O} {agg : Bool} {n : Nat} {t : TypeId} {x r : V} {v : Value} (hi : Inv F M w H) (hv : Rep F M v x) (ht : TyIs P t agg n)
    (h : loadA agg n H x = some r) : ∃ a u, v = .pointer (some a) ∧ (loadVar t a).run P w = .ok u w ∧ Rep F M u r := by
  cases hv with
  | @bx id blk off hM =>
    simp only [loadA] at h
    split at h
    · rename_i ty cells hH
      have hobj := hi.objs id _ _ hH hM
      cases hobj with
      | row _ _ _ c hc hs hr h1 hF =>
        cases agg with
        | true =>
          simp at h
          obtain ⟨hle, rfl⟩ := h
          have hcell : ∀ j, j < n → w.cell? ((⟨blk, off, none⟩ : Addr).add j) = some (c.getD (off + j) undef) := fun j hj => by
            rw [add_lit]
            have hlt : off + j < c.size := by rw [hs]; omega
            simp [World.cell?, hc, hlt]
          refine ⟨_, _, rfl, run_loadVar_cells ht w _ _ hcell, .agg _ _ (by simp; omega) fun j hj => ?_⟩
          simp at hj
          have := hr (off + j) (by omega)
          have e1 : ((List.range n).map fun j => c.getD (off + j) undef).toArray.getD j undef = c.getD (off + j) undef := by
            simp [Array.getD_eq_getD_getElem?, List.getElem?_range (show j < n by omega)]
          have e2 : ((cells.drop off).take n).getD j .any = cells.getD (off + j) .any := by
            simp [List.getD_eq_getElem?_getD, List.getElem?_take, show j < n by omega]
          rw [e1, e2]; exact this
        | false =>
          simp at h
          have hlt := (List.getElem?_eq_some_iff.1 h).1
          have hcell : w.cell? ⟨blk, off, none⟩ = some (c.getD off undef) := by
            have hlt' : off < c.size := by rw [hs]; exact hlt
            simp [World.cell?, hc, hlt']
          refine ⟨_, _, rfl, run_loadVar_cell ht w _ _ hcell, ?_⟩
          have := hr off hlt
          rwa [List.getD_eq_getElem?_getD, h] at this
    · cases h
  | rp a cells vals hf hr =>
    cases agg with
    | true =>
      simp [loadA] at h
      obtain ⟨hle, rfl⟩ := h
      refine ⟨_, _, rfl, run_loadVar_cells ht w a vals (fun j hj => hi.cells _ _ (hf j (by omega))), .agg _ _ (by simp; omega) fun j hj => ?_⟩
      simp at hj
      have := hr j (by omega)
      have e1 : ((List.range n).map vals).toArray.getD j undef = vals j := by
        simp [Array.getD_eq_getD_getElem?, List.getElem?_range (show j < n by omega)]
      have e2 : ((cells.map V.d).take n).getD j .any = .d (cells.getD j default) := by
        simp [List.getD_eq_getElem?_getD, List.getElem?_take, show j < n by omega, List.getElem?_eq_getElem (show j < cells.length by omega)]
      rw [e1, e2]
      exact .d this
    | false =>
      simp [loadA] at h
      obtain ⟨x, hx, rfl⟩ := h
      have hlt := (List.getElem?_eq_some_iff.1 hx).1
      have hc := hi.cells _ _ (hf 0 hlt)
      rw [add_zero] at hc
      refine ⟨_, _, rfl, run_loadVar_cell ht w a _ hc, .d ?_⟩
      have := hr 0 hlt
      rwa [List.getD_eq_getElem?_getD, hx] at this
  | _ => simp [loadA] at h

theorem Yp.load {o : Oper} {g : Nat → V} {H : List O} {t : TypeId} {x : Operand} {agg : Bool} {n : Nat} {r : V} (ho : o.op = .load t x) (ht : TyIs P t agg n)
    (h : loadA agg n H (evO g x) = some r) : Yp P o g H r := by
  intro F M w ρ hi hr
  obtain ⟨a, u, hv, hrun, hu⟩ := loadA_sound hi (hr x) ht h
  refine ⟨u, ?_, hu⟩
  simp [execOp, ho, Instr.loadAt, Instr.sureAddr, hv, hrun]

/-! ### Moves, constants -/
theorem Yp.move {o : Oper} {g : Nat → V} {H : List O} {x : Operand} (ho : o.op = .move x ∨ o.op = .assign x) : Yp P o g H (evO g x) := by
  intro F M w ρ hi hr
  refine ⟨ρ x, ?_, hr x⟩
  rcases ho with ho | ho <;> simp [execOp, ho]

theorem Yp.pick {o : Oper} {g : Nat → V} {H : List O} {c x y : Operand} (b : Bool) (ho : o.op = .pick c x y) (hc : evO g c = .d (.lit (.bool b))) : Yp P o g H (if b then evO g x else evO g y) := by
  intro F M w ρ hi hr
  have h := hr c
  rw [hc] at h
  have := h.lit_inv
  refine ⟨if b then ρ x else ρ y, ?_, ?_⟩
  · simp [execOp, ho, this, asBool]
  · split <;> exact hr _

theorem Yp.extract {o : Oper} {g : Nat → V} {H : List O} {x : Operand} {i : Nat} {vs : List V} {r : V} (ho : o.op = .extract x i) (hx : evO g x = .tup vs) (h : vs[i]? = some r) : Yp P o g H r := by
  intro F M w ρ hi hr
  have h1 := hr x
  rw [hx] at h1
  generalize hv : ρ x = v at h1
  cases h1 with
  | tup cs _ hs hrr =>
    have hlt := (List.getElem?_eq_some_iff.1 h).1
    have hlt' : i < cs.size := by rw [hs]; exact hlt
    have h2 := hrr i hlt
    rw [List.getD_eq_getElem?_getD, h] at h2
    refine ⟨cs.getD i undef, ?_, h2⟩
    simp [execOp, ho, hv, Instr.extract, hlt', Array.getD_eq_getD_getElem?]
end
end Go.Ab
