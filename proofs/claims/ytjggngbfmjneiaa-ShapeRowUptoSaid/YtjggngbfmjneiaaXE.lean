/-
  PROVED: hallmarklaw09.ShapeRow returns true, and its arguments read as they did, at all arguments whose readings together are of bulk at most 1048576 (Rows.ShapeRowUptoSaid): shape.Cmp puts well shaped types of few parts in an order: its answers are -1, 0 and 1, of two turned round the negative, it goes on from type to type, and 0 is answered of equal types alone.
-/
import Derived.Test.YtjggngbfmjneiaaXC
import Derived.Test.YtjggngbfmjneiaaW17
set_option linter.unusedVariables false
set_option linter.unusedSimpArgs false
namespace Go.Proofs.Ytjggngbfmjneiaa
open Go.ChangeShapes Go.WideShapes Go.ChangeAt Go.RowKit
open Go.Ab

theorem own : ownKnob Try.prog.godebug = none := by kernel_rfl
theorem laidOutP : laidOutB Try.prog = true := by kernel_rfl

set_option maxRecDepth 100000 in
theorem shapeRow_contract (H : Type) (enc : TypeId × Value → H) (W : World) (base : Nat) (args : Array Value) (ds gs : List (DataW H)) (before : List MemPlace)
    (hval : ∀ (j : Nat) t v, Try.f4.params[j]? = some t → args[j]? = some v → Value.okWide Try.prog W .any base t v)
    (hW : DataW.Whole enc Try.prog Try.f4.params.toList Rows.shapeRowSpec.vars false W args.toList ds gs before) (hk : Rows.uptoSmall H (ds ++ gs) = true) :
    Calls Try.prog 4 args W fun e W' => ∃ v, e = .returned v ∧ Rows.shapeRowSpec.post enc Try.prog Try.f4 false true false false W args v W' := by
  have hW' := hW
  obtain ⟨p, q, hA0, hV, rfl, hfz, hnd⟩ := hW
  have hA : DataW.TrodAll enc Try.prog W 0 (fun _ => true) true Try.f4.params.toList args.toList ds p := hA0
  rw [Try.params4] at hA hval
  obtain ⟨v0, v1, v2, d0, d1, d2, p0, p1, p2, rfl, rfl, rfl, h0, h1, h2⟩ := trodAll_three hA
  obtain ⟨rfl, rfl⟩ := trodVars_none hV
  obtain ⟨t0, ht0⟩ := open_ty (hval 0 27 v0 rfl rfl) h0 (small_mem hk (by simp))
  obtain ⟨t1, ht1⟩ := open_ty (hval 1 27 v1 rfl rfl) h1 (small_mem hk (by simp))
  obtain ⟨t2, ht2⟩ := open_ty (hval 2 27 v2 rfl rfl) h2 (small_mem hk (by simp))
  have hlt := hW'.lt
  simp only [List.append_nil] at hlt
  refine ((shapeRow_ok t0 t1 t2).at (vals := [v0, v1, v2]) ⟨rfl, fun j hj => ?_⟩).mono ?_
  · match j, hj with
    | 0, _ => exact ht0
    | 1, _ => exact ht1
    | 2, _ => exact ht2
  rintro e W' ⟨v, rfl, ⟨F, hv⟩, hb⟩
  have hv := hv.lit_inv
  subst hv
  have hT : ∀ {v d p}, DataW.Trod enc Try.prog W 0 (fun _ => true) true 27 v d p → (∀ x ∈ p, x.block < W.heap.size) → DataW.Trod enc Try.prog W' 0 (fun b => decide (b < W.heap.size)) true 27 v d p := fun h k =>
    Below.trod laidOutP (by kernel_rfl) (of_decide_eq_true (by kernel_rfl)) h hb k
  refine ⟨_, rfl, [d0, d1, d2], [], (p0 ++ p1 ++ p2) ++ [], [], p0 ++ (p1 ++ p2), [], hW', trodAll_mk1 (shut_bool Try.underlying4 _), trodAll_mk3 (hT h0 fun x hx => hlt x ?_) (hT h1 fun x hx => hlt x ?_) (hT h2 fun x hx => hlt x ?_), rfl, hb.frame _, fun h => by cases h⟩
  all_goals simp [hx]

set_option maxRecDepth 100000 in
theorem shapeRow_lifted (os : Os) (started : os.Started) (H : Type) (enc : TypeId × Value → H) (F : Stop.Interp) :
    ReturnsInHanded {} Try.checked os 4 .any ((Rows.OpenSpec.upto Rows.shapeRowSpec).pre6 enc Try.prog Try.f4 Rows.shapeRowUptoRow.domain false) (((Rows.OpenSpec.upto Rows.shapeRowSpec).at F).post enc Try.prog Try.f4 false true false false) := by
  refine returnsInHanded_of_cond (C := Try.checked) (s := Rows.OpenSpec.upto Rows.shapeRowSpec) (k := Rows.uptoSmall) rfl own started (by kernel_rfl) Try.func4
    (OpenSpec.witness (enc := enc) (C := Try.checked) (s := Rows.OpenSpec.upto Rows.shapeRowSpec) (k := Rows.uptoSmall) rfl false
      ⟨#[], #[.agg #[.bool false, .bool false, .bool false, .bool false, .slice none 0 0, .bool false, .slice none 0 0, .slice none 0 0, .slice none 0 0], .agg #[.bool false, .bool false, .bool false, .bool false, .slice none 0 0, .bool false, .slice none 0 0, .slice none 0 0, .slice none 0 0], .agg #[.bool false, .bool false, .bool false, .bool false, .slice none 0 0, .bool false, .slice none 0 0, .slice none 0 0, .slice none 0 0]], []⟩ 8 (by kernel_rfl) (by kernel_rfl) (by kernel_rfl)
      (x := ([.agg [.lit (.bool false), .lit (.bool false), .lit (.bool false), .lit (.bool false), .nil, .lit (.bool false), .nil, .nil, .nil], .agg [.lit (.bool false), .lit (.bool false), .lit (.bool false), .lit (.bool false), .nil, .lit (.bool false), .nil, .nil, .nil], .agg [.lit (.bool false), .lit (.bool false), .lit (.bool false), .lit (.bool false), .nil, .lit (.bool false), .nil, .nil, .nil]], [], [])) (by kernel_rfl) rfl (by kernel_rfl)) ?_
  intro W base args ds gs before hval hW _ hk _
  exact shapeRow_contract H enc W base args ds gs before hval hW hk

theorem shapeRow_proved : Rows.ShapeRowUptoSaid :=
  OpenClaim.holds_of_cond 4 Try.f4 rfl rfl rfl rfl rfl rfl rfl ⟨rfl, rfl, rfl, rfl, rfl⟩ rfl rfl rfl rfl rfl (by kernel_rfl) Try.func4 (by kernel_rfl)
    (of_decide_eq_true (by kernel_rfl)) (by unfold Func.isWrapper; first | (rw [if_pos (by decide +kernel)]; kernel_rfl) | (rw [if_neg (by decide +kernel)]; exact ⟨rfl, rfl⟩))
    (fun os started H enc _ F => shapeRow_lifted os started H enc F)
end Go.Proofs.Ytjggngbfmjneiaa
