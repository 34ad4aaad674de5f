/-
  PROVED: hallmarklaw09.ShapeKinds returns true, and its arguments read as they did, at all arguments whose readings together are of bulk at most 1048576, the tables of unicode/utf8 being as their initialisers lay them (the tied card Rows.ShapeKindsUptoCardSaid): shape.OfKinds and shape.Kinds answer as the document says, and a well shaped value of few parts is of the type of some kinds just where its own kind is among them.
-/
import Derived.Test.YtjggngbfmjneiaaDoorXG
import Derived.Test.YtjggngbfmjneiaaDoorXH
import Derived.Test.YtjggngbfmjneiaaDoorW28
set_option linter.unusedVariables false
set_option linter.unusedSimpArgs false
namespace Go.Proofs.YtjggngbfmjneiaaDoor
open Go.ChangeShapes Go.WideShapes Go.ChangeAt Go.RowKit
open Go.Ab

set_option maxRecDepth 100000 in
theorem shapeKinds_contract (H : Type) (enc : TypeId × Value → H) (W : World) (base : Nat) (args : Array Value) (ds gs : List (DataW H)) (before : List MemPlace)
    (hval : ∀ (j : Nat) t v, Tryd.f4.params[j]? = some t → args[j]? = some v → Value.okWide Tryd.prog W .any base t v)
    (hW : DataW.Whole enc Tryd.prog Tryd.f4.params.toList Rows.shapeKindsSpec.vars false W args.toList ds gs before) (hk : Rows.uptoSmall H (ds ++ gs) = true) (hL : laidMetH Tryd.prog Rows.shapeKindsUptoRow.laid W) :
    Calls Tryd.prog 4 args W fun e W' => ∃ v, e = .returned v ∧ Rows.shapeKindsSpec.post enc Tryd.prog Tryd.f4 false true false false W args v W' := by
  have hW' := hW
  obtain ⟨p, q, hA0, hV, rfl, hfz, hnd⟩ := hW
  have hA : DataW.TrodAll enc Tryd.prog W 0 (fun _ => true) true Tryd.f4.params.toList args.toList ds p := hA0
  rw [Tryd.params4] at hA hval
  obtain ⟨v0, v1, v2, d0, d1, d2, p0, p1, p2, rfl, rfl, rfl, h0, h1, h2⟩ := trodAll_three hA
  obtain ⟨rfl, rfl⟩ := trodVars_none hV
  obtain ⟨n0, rfl, rfl, rfl, hw0⟩ := open_int Tryd.underlying5 (hval 0 5 _ rfl rfl) h0
  have hn0 : 0 ≤ n0 ∧ n0 < 256 := by simp [Lit.wf, IntKind.min, IntKind.max, IntKind.bits, IntKind.signed] at hw0; omega
  obtain ⟨m0, rfl⟩ := Int.eq_ofNat_of_zero_le hn0.1
  have h0 : DataW.Trod enc Tryd.prog W 0 (fun _ => true) true 5 (.int .u8 (m0 : Int)) (.lit (.int .u8 (m0 : Int))) [] := shut_int Tryd.underlying5 hw0
  have ht0 : Rep W.cell? [] (.int .u8 (m0 : Int)) (vU8 m0) := .d (.lit _ rfl)
  obtain ⟨t1, ht1⟩ := open_ty (hval 1 27 v1 rfl rfl) h1 (small_mem hk (by simp))
  obtain ⟨t2, ht2⟩ := open_val (hval 2 34 v2 rfl rfl) h2 (small_mem hk (by simp))
  have hlt := hW'.lt
  simp only [List.append_nil] at hlt
  refine ((shapeKinds_ok m0 (by omega) t1 t2).at (ground_of_laid hL) (vals := [(.int .u8 (m0 : Int)), v1, v2]) ⟨rfl, fun j hj => ?_⟩).mono ?_
  · match j, hj with
    | 0, _ => exact ht0
    | 1, _ => exact ht1
    | 2, _ => exact ht2
  rintro e W' ⟨v, rfl, ⟨F, hv⟩, hb⟩
  have hv := hv.lit_inv
  subst hv
  have g0 : DataW.Trod enc Tryd.prog W' 0 (fun b => decide (b < W.heap.size)) true 5 (.int .u8 (m0 : Int)) (.lit (.int .u8 (m0 : Int))) [] := shut_int Tryd.underlying5 hw0
  have g1 : DataW.Trod enc Tryd.prog W' 0 (fun b => decide (b < W.heap.size)) true 27 v1 d1 p1 := Below.trod laidOutP (by kernel_rfl) (of_decide_eq_true (by kernel_rfl)) h1 hb fun x hx => hlt x (by simp [hx])
  have g2 : DataW.Trod enc Tryd.prog W' 0 (fun b => decide (b < W.heap.size)) true 34 v2 d2 p2 := Below.trod laidOutP (by kernel_rfl) (of_decide_eq_true (by kernel_rfl)) h2 hb fun x hx => hlt x (by simp [hx])
  exact ⟨_, rfl, [(.lit (.int .u8 (m0 : Int))), d1, d2], [], ([] ++ p1 ++ p2) ++ [], [], [] ++ (p1 ++ p2), [], hW', trodAll_mk1 (shut_bool Tryd.underlying4 _), trodAll_mk3 g0 g1 g2, rfl, hb.frame _, fun h => by cases h⟩

theorem shapeKinds_laid_met (os : Os) (args : Array Value) : laidMet Tryd.prog Rows.shapeKindsUptoRow.laid ((laidWorld os).forCall (fun _ _ => 0) ⟨#[], args, []⟩).memory :=
  laidMet_of_run' 8 (by kernel_rfl) (by kernel_rfl)
theorem shapeKinds_reads (os : Os) {H : Type} (enc : TypeId × Value → H) : ∃ places, DataW.whole enc Tryd.prog ((laidWorld os).forCall (fun _ _ => 0) ⟨#[], #[(.int .u8 0), (.agg #[.bool false, .bool false, .bool false, .bool false, .slice none 0 0, .bool false, .slice none 0 0, .slice none 0 0, .slice none 0 0]), (.agg #[.int .i64 0, .string ⟨#[]⟩, .string ⟨#[]⟩, .slice none 0 0, .slice none 0 0])], []⟩).memory Tryd.f4.params.toList Rows.shapeKindsSpec.vars false (#[(.int .u8 0), (.agg #[.bool false, .bool false, .bool false, .bool false, .slice none 0 0, .bool false, .slice none 0 0, .slice none 0 0, .slice none 0 0]), (.agg #[.int .i64 0, .string ⟨#[]⟩, .string ⟨#[]⟩, .slice none 0 0, .slice none 0 0])] : Array Value).toList 8 =
    some ([.lit (.int .u8 0), .agg [.lit (.bool false), .lit (.bool false), .lit (.bool false), .lit (.bool false), .nil, .lit (.bool false), .nil, .nil, .nil], .agg [.lit (.int .i64 0), .lit (.string []), .lit (.string []), .nil, .nil]], [], places) :=
  ⟨[], by kernel_rfl⟩

set_option maxRecDepth 100000 in
theorem shapeKinds_lifted (os : Os) (started : os.Started) (H : Type) (enc : TypeId × Value → H) (F : Stop.Interp) :
    ReturnsInHanded {} Tryd.checked os 4 .any ((Rows.OpenSpec.upto Rows.shapeKindsSpec).preRow enc Tryd.prog Tryd.f4 Rows.shapeKindsUptoRow.domain false Rows.shapeKindsUptoRow.laid) (((Rows.OpenSpec.upto Rows.shapeKindsSpec).at F).post enc Tryd.prog Tryd.f4 false true false false) := by
  obtain ⟨places, hx⟩ := shapeKinds_reads os enc
  refine returnsInHanded_of_row (C := Tryd.checked) (s := Rows.OpenSpec.upto Rows.shapeKindsSpec) own started (by kernel_rfl) Tryd.func4
    (witness_row_at (enc := enc) (C := Tryd.checked) false (laidWorld os) #[(.int .u8 0), (.agg #[.bool false, .bool false, .bool false, .bool false, .slice none 0 0, .bool false, .slice none 0 0, .slice none 0 0, .slice none 0 0]), (.agg #[.int .i64 0, .string ⟨#[]⟩, .string ⟨#[]⟩, .slice none 0 0, .slice none 0 0])] rfl (by kernel_rfl) (by kernel_rfl) (by kernel_rfl)
      (OpenSpec.preRow_of_cond 8 hx (by kernel_rfl) (fun k hk => by cases hk; kernel_rfl) (by kernel_rfl) (shapeKinds_laid_met os _))) ?_
  intro W base args ds gs before hval hW _ hcond _ hL _ _
  exact shapeKinds_contract H enc W base args ds gs before hval hW (hcond _ rfl) hL

theorem shapeKinds_said : Rows.ShapeKindsUptoSaid :=
  OpenClaim.holds_of_cond 4 Tryd.f4 rfl rfl rfl rfl rfl rfl rfl ⟨rfl, rfl, rfl, rfl, rfl⟩ rfl rfl rfl rfl rfl (by kernel_rfl) Tryd.func4 (by kernel_rfl)
    (of_decide_eq_true (by kernel_rfl)) (by unfold Func.isWrapper; first | (rw [if_pos (by decide +kernel)]; kernel_rfl) | (rw [if_neg (by decide +kernel)]; exact ⟨rfl, rfl⟩))
    (fun os started H enc _ F => by rw [OpenClaim.pre_eq_preRow]; exact shapeKinds_lifted os started H enc F)

theorem shapeKinds_plain (f : FuncId) (fn : Func) (hf : Tryd.pinned.checked.prog.funcNamed "hallmark/hallmarklaw09.ShapeKinds" = some f) (hfn : Tryd.pinned.checked.prog.funcs[f]? = some fn) :
    false = Tryd.pinned.checked.prog.looks [] ∧ ∀ (j : Nat) t, fn.params[j]? = some t → Tryd.pinned.checked.prog.wantsStandIn t = false := by
  obtain rfl : f = 4 := Option.some.inj ((show Tryd.prog.funcNamed "hallmark/hallmarklaw09.ShapeKinds" = some 4 by kernel_rfl).symm.trans hf) |>.symm
  obtain rfl : fn = Tryd.f4 := (Option.some.inj (Tryd.func4.symm.trans hfn)).symm
  refine ⟨by kernel_rfl, fun j t ht => ?_⟩
  rw [Tryd.params4] at ht
  have hm := Array.mem_of_getElem? ht
  simp only [List.mem_toArray, List.mem_cons, List.not_mem_nil, or_false] at hm
  rcases hm with rfl | rfl | rfl
  · exact (show Tryd.prog.wantsStandIn 5 = false by kernel_rfl)
  · exact (show Tryd.prog.wantsStandIn 27 = false by kernel_rfl)
  · exact (show Tryd.prog.wantsStandIn 34 = false by kernel_rfl)

theorem shapeKinds_card : Rows.ShapeKindsUptoCardSaid :=
  Claim7.holds_tied_plain_at .later [] _ _ _ _ shapeKinds_said (fun _ h => by cases h) (by kernel_rfl) (fun _ h => by cases h) shapeKindsUpto_row_tie rfl ⟨rfl, rfl⟩ (by kernel_rfl) rfl shapeKinds_plain (by kernel_rfl)
end Go.Proofs.YtjggngbfmjneiaaDoor
