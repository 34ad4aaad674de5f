/-
  PROVED: hallmarklaw09.ShapeOrders returns true, and its arguments read as they did, at all arguments whose readings together are of bulk at most 1048576, the tables of unicode/utf8 being as their initialisers lay them (the tied card Rows.ShapeOrdersUptoCardSaid): for well shaped types of few parts shape.Cmp answers as the document's order does, shape.Same says yes just where that order answers 0, and that is just where the types are the same part by part.
-/
import Derived.Test.YtjggngbfmjneiaaDoorXG
import Derived.Test.YtjggngbfmjneiaaDoorW21
set_option linter.unusedVariables false
set_option linter.unusedSimpArgs false
namespace Go.Proofs.YtjggngbfmjneiaaDoor
open Go.ChangeShapes Go.WideShapes Go.ChangeAt Go.RowKit
open Go.Ab

set_option maxRecDepth 100000 in
theorem shapeOrders_contract (H : Type) (enc : TypeId × Value → H) (W : World) (base : Nat) (args : Array Value) (ds gs : List (DataW H)) (before : List MemPlace)
    (hval : ∀ (j : Nat) t v, Tryd.f3.params[j]? = some t → args[j]? = some v → Value.okWide Tryd.prog W .any base t v)
    (hW : DataW.Whole enc Tryd.prog Tryd.f3.params.toList Rows.shapeOrdersSpec.vars false W args.toList ds gs before) (hk : Rows.uptoSmall H (ds ++ gs) = true) (hL : laidMetH Tryd.prog Rows.shapeOrdersUptoRow.laid W) :
    Calls Tryd.prog 3 args W fun e W' => ∃ v, e = .returned v ∧ Rows.shapeOrdersSpec.post enc Tryd.prog Tryd.f3 false true false false W args v W' := by
  have hW' := hW
  obtain ⟨p, q, hA0, hV, rfl, hfz, hnd⟩ := hW
  have hA : DataW.TrodAll enc Tryd.prog W 0 (fun _ => true) true Tryd.f3.params.toList args.toList ds p := hA0
  rw [Tryd.params3] at hA hval
  obtain ⟨v0, v1, d0, d1, p0, p1, rfl, rfl, rfl, h0, h1⟩ := trodAll_two hA
  obtain ⟨rfl, rfl⟩ := trodVars_none hV
  obtain ⟨t0, ht0⟩ := open_ty (hval 0 27 v0 rfl rfl) h0 (small_mem hk (by simp))
  obtain ⟨t1, ht1⟩ := open_ty (hval 1 27 v1 rfl rfl) h1 (small_mem hk (by simp))
  have hlt := hW'.lt
  simp only [List.append_nil] at hlt
  refine ((shapeOrders_ok t0 t1).at (ground_of_laid hL) (vals := [v0, v1]) ⟨rfl, fun j hj => ?_⟩).mono ?_
  · match j, hj with
    | 0, _ => exact ht0
    | 1, _ => exact ht1
  rintro e W' ⟨v, rfl, ⟨F, hv⟩, hb⟩
  have hv := hv.lit_inv
  subst hv
  have hT : ∀ {v d p}, DataW.Trod enc Tryd.prog W 0 (fun _ => true) true 27 v d p → (∀ x ∈ p, x.block < W.heap.size) → DataW.Trod enc Tryd.prog W' 0 (fun b => decide (b < W.heap.size)) true 27 v d p := fun h k =>
    Below.trod laidOutP (by kernel_rfl) (of_decide_eq_true (by kernel_rfl)) h hb k
  refine ⟨_, rfl, [d0, d1], [], (p0 ++ p1) ++ [], [], p0 ++ p1, [], hW', trodAll_mk1 (shut_bool Tryd.underlying4 _), trodAll_mk2 (hT h0 fun x hx => hlt x ?_) (hT h1 fun x hx => hlt x ?_), rfl, hb.frame _, fun h => by cases h⟩
  all_goals simp [hx]

theorem shapeOrders_laid_met (os : Os) (args : Array Value) : laidMet Tryd.prog Rows.shapeOrdersUptoRow.laid ((laidWorld os).forCall (fun _ _ => 0) ⟨#[], args, []⟩).memory :=
  laidMet_of_run' 8 (by kernel_rfl) (by kernel_rfl)
noncomputable def nilTy : Value := .agg #[.bool false, .bool false, .bool false, .bool false, .slice none 0 0, .bool false, .slice none 0 0, .slice none 0 0, .slice none 0 0]
theorem shapeOrders_reads (os : Os) {H : Type} (enc : TypeId × Value → H) : ∃ places, DataW.whole enc Tryd.prog ((laidWorld os).forCall (fun _ _ => 0) ⟨#[], #[nilTy, nilTy], []⟩).memory Tryd.f3.params.toList Rows.shapeOrdersSpec.vars false #[nilTy, nilTy].toList 8 =
    some ([.agg [.lit (.bool false), .lit (.bool false), .lit (.bool false), .lit (.bool false), .nil, .lit (.bool false), .nil, .nil, .nil], .agg [.lit (.bool false), .lit (.bool false), .lit (.bool false), .lit (.bool false), .nil, .lit (.bool false), .nil, .nil, .nil]], [], places) :=
  ⟨[], by kernel_rfl⟩

set_option maxRecDepth 100000 in
theorem shapeOrders_lifted (os : Os) (started : os.Started) (H : Type) (enc : TypeId × Value → H) (F : Stop.Interp) :
    ReturnsInHanded {} Tryd.checked os 3 .any ((Rows.OpenSpec.upto Rows.shapeOrdersSpec).preRow enc Tryd.prog Tryd.f3 Rows.shapeOrdersUptoRow.domain false Rows.shapeOrdersUptoRow.laid) (((Rows.OpenSpec.upto Rows.shapeOrdersSpec).at F).post enc Tryd.prog Tryd.f3 false true false false) := by
  obtain ⟨places, hx⟩ := shapeOrders_reads os enc
  refine returnsInHanded_of_row (C := Tryd.checked) (s := Rows.OpenSpec.upto Rows.shapeOrdersSpec) own started (by kernel_rfl) Tryd.func3
    (witness_row_at (enc := enc) (C := Tryd.checked) false (laidWorld os) #[nilTy, nilTy] rfl (by kernel_rfl) (by kernel_rfl) (by kernel_rfl)
      (OpenSpec.preRow_of_cond 8 hx (by kernel_rfl) (fun k hk => by cases hk; kernel_rfl) (by kernel_rfl) (shapeOrders_laid_met os _))) ?_
  intro W base args ds gs before hval hW _ hcond _ hL _ _
  exact shapeOrders_contract H enc W base args ds gs before hval hW (hcond _ rfl) hL

theorem shapeOrders_said : Rows.ShapeOrdersUptoSaid :=
  OpenClaim.holds_of_cond 3 Tryd.f3 rfl rfl rfl rfl rfl rfl rfl ⟨rfl, rfl, rfl, rfl, rfl⟩ rfl rfl rfl rfl rfl (by kernel_rfl) Tryd.func3 (by kernel_rfl)
    (of_decide_eq_true (by kernel_rfl)) (by unfold Func.isWrapper; first | (rw [if_pos (by decide +kernel)]; kernel_rfl) | (rw [if_neg (by decide +kernel)]; exact ⟨rfl, rfl⟩))
    (fun os started H enc _ F => by rw [OpenClaim.pre_eq_preRow]; exact shapeOrders_lifted os started H enc F)

theorem shapeOrders_plain (f : FuncId) (fn : Func) (hf : Tryd.pinned.checked.prog.funcNamed "hallmark/hallmarklaw09.ShapeOrders" = some f) (hfn : Tryd.pinned.checked.prog.funcs[f]? = some fn) :
    false = Tryd.pinned.checked.prog.looks [] ∧ ∀ (j : Nat) t, fn.params[j]? = some t → Tryd.pinned.checked.prog.wantsStandIn t = false := by
  obtain rfl : f = 3 := Option.some.inj ((show Tryd.prog.funcNamed "hallmark/hallmarklaw09.ShapeOrders" = some 3 by kernel_rfl).symm.trans hf) |>.symm
  obtain rfl : fn = Tryd.f3 := (Option.some.inj (Tryd.func3.symm.trans hfn)).symm
  refine ⟨by kernel_rfl, fun j t ht => ?_⟩
  rw [Tryd.params3] at ht
  obtain rfl : t = 27 := by simpa using Array.mem_of_getElem? ht
  exact (show Tryd.prog.wantsStandIn 27 = false by kernel_rfl)

theorem shapeOrders_card : Rows.ShapeOrdersUptoCardSaid :=
  Claim7.holds_tied_plain_at .later [] _ _ _ _ shapeOrders_said (fun _ h => by cases h) (by kernel_rfl) (fun _ h => by cases h) shapeOrdersUpto_row_tie rfl ⟨rfl, rfl⟩ (by kernel_rfl) rfl shapeOrders_plain (by kernel_rfl)
end Go.Proofs.YtjggngbfmjneiaaDoor
