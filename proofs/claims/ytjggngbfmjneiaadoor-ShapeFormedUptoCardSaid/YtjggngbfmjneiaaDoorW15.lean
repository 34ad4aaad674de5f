import Derived.Test.YtjggngbfmjneiaaDoorW14
set_option linter.unusedVariables false
set_option linter.unusedSimpArgs false
set_option maxRecDepth 4000
namespace Go.Ab
open Go.Proofs

theorem span_ok (a b : Sp) (ha : BoundOk a.low ∧ BoundOk a.high) (hb : BoundOk b.low ∧ BoundOk b.high) : PCall Tryd.prog 39 [vSp a, vSp b] (vInt (cmpSp a b)) := by
  refine PCall.of_fx TTok mixed Tryd.func39 rfl (by decide) rfl rfl ?_
  conv => whnf
  (refine ⟨by decide +kernel, ?_⟩; conv => whnf)
  refine (boundC_ok a.low b.low (-1) (.inr rfl) ha.1 hb.1).useQ (.refl _) ?_
  conv => whnf
  refine (boundC_ok a.high b.high 1 (.inl rfl) ha.2 hb.2).useQ (.refl _) ?_
  conv => whnf
  refine ⟨rfl, ?_⟩
  conv => whnf
  refine (or_ok [boundC (-1) a.low b.low, boundC 1 a.high b.high]).useQ (.cons (.xs_sl _) .nil) ?_
  conv => whnf
  exact retI TTok rfl rfl

theorem arr_ok (a b : Ar) (h : PCall Tryd.prog 10 [vTy a.item, vTy b.item] (vInt (cmpTy a.item b.item))) : PCall Tryd.prog 42 [vAr a, vAr b] (vInt (cmpAr a b)) := by
  rw [cmpAr_eq]
  refine PCall.of_fx TTok mixed Tryd.func42 rfl (by decide) rfl rfl ?_
  conv => whnf
  (refine ⟨by decide +kernel, ?_⟩; conv => whnf)
  refine (cmpInt_ok a.min b.min).useQ (.refl _) ?_
  conv => whnf
  refine (most_ok a.max b.max).useQ (.refl _) ?_
  conv => whnf
  refine h.useQ (.refl _) ?_
  conv => whnf
  refine ⟨rfl, ?_⟩
  conv => whnf
  refine (or_ok [cmpI a.min b.min, mostC a.max b.max, cmpTy a.item b.item]).useQ (.cons (.xs_sl _) .nil) ?_
  conv => whnf
  exact retI TTok rfl rfl

theorem obj_ok (a b : Ob) (h : PCall Tryd.prog 10 [vTy a.rest, vTy b.rest] (vInt (cmpTy a.rest b.rest))) (hf : ∀ x ∈ a.fields, ∀ y ∈ b.fields, PCall Tryd.prog 10 [vTy x, vTy y] (vInt (cmpTy x y))) : PCall Tryd.prog 44 [vOb a, vOb b] (vInt (cmpOb a b)) := by
  rw [cmpOb_eq]
  refine PCall.of_fx TTok mixed Tryd.func44 rfl (by decide) rfl rfl ?_
  conv => whnf
  (refine ⟨by decide +kernel, ?_⟩; conv => whnf)
  refine (cmpStrs_ok a.names b.names).useQ (.refl _) ?_
  conv => whnf
  refine (cfBool _ truthC a.must b.must fun x _ y _ => truth_ok x y).useQ (.refl _) ?_
  conv => whnf
  refine (cfTy _ cmpTy a.fields b.fields hf).useQ (.refl _) ?_
  conv => whnf
  refine h.useQ (.refl _) ?_
  conv => whnf
  refine ⟨rfl, ?_⟩
  conv => whnf
  refine (or_ok [cmpL cmpS a.names b.names, cmpL truthC a.must b.must, cmpL cmpTy a.fields b.fields, cmpTy a.rest b.rest]).useQ (.cons (.xs_sl _) .nil) ?_
  conv => whnf
  exact retI TTok rfl rfl

set_option maxHeartbeats 4000000 in
theorem cmp_ok : ∀ a : Ty, BOk a → ∀ b : Ty, BOk b → PCall Tryd.prog 10 [vTy a, vTy b] (vInt (cmpTy a b)) := by
  intro a
  induction a using Ty.ind with
  | h a iha iho =>
  intro ha b hb
  cases ha with | mk an ai ar af =>
  cases hb with | mk bn bi br bf =>
  rw [cmpTy_eq]
  refine PCall.of_fx TTok mixed Tryd.func10 rfl (by decide) rfl rfl ?_
  conv => whnf
  (refine ⟨by decide +kernel, ?_⟩; conv => whnf)
  refine (truth_ok _ _).useQ (.refl _) ?_
  conv => whnf
  refine (truth_ok _ _).useQ (.refl _) ?_
  conv => whnf
  refine (truth_ok _ _).useQ (.refl _) ?_
  conv => whnf
  refine (truth_ok _ _).useQ (.refl _) ?_
  conv => whnf
  refine (cfSp _ cmpSp a.nums b.nums fun x hx y hy => span_ok x y (an x hx) (bn y hy)).useQ (.refl _) ?_
  conv => whnf
  refine (truth_ok _ _).useQ (.refl _) ?_
  conv => whnf
  refine (cmpStrs_ok a.texts b.texts).useQ (.refl _) ?_
  conv => whnf
  refine (cfAr _ cmpAr a.arrays b.arrays fun x hx y hy => arr_ok x y (iha x hx (ai x hx) _ (bi y hy))).useQ (.refl _) ?_
  conv => whnf
  refine (cfOb _ cmpOb a.objects b.objects fun x hx y hy => obj_ok x y ((iho x hx).1 (ar x hx) _ (br y hy)) fun u hu v hv => (iho x hx).2 u hu (af x hx u hu) _ (bf y hy v hv)).useQ (.refl _) ?_
  conv => whnf
  refine ⟨rfl, ?_⟩
  conv => whnf
  refine (or_ok [truthC a.all b.all, truthC a.null b.null, truthC a.fls b.fls, truthC a.tru b.tru, cmpL cmpSp a.nums b.nums, truthC a.anyText b.anyText, cmpL cmpS a.texts b.texts, cmpL cmpAr a.arrays b.arrays, cmpL cmpOb a.objects b.objects]).useQ (.cons (.xs_sl _) .nil) ?_
  conv => whnf
  exact retI TTok rfl rfl
end Go.Ab
