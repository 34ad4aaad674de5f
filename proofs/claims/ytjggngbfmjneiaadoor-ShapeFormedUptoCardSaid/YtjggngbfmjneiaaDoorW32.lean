import Derived.Test.YtjggngbfmjneiaaDoorW31
import Derived.Test.YtjggngbfmjneiaaDoorW20
set_option linter.unusedVariables false
set_option linter.unusedSimpArgs false
set_option maxRecDepth 4000
namespace Go.Ab
open Go.Proofs

theorem shapeFormed_ok (t : Ty) : PCall Tryd.prog 5 [vTy t] (vBool true) := by
  refine PCall.of_fx TTok mixed Tryd.func5 rfl (by decide) rfl rfl ?_
  conv => whnf
  (refine ⟨by decide +kernel, ?_⟩; conv => whnf)
  refine lives_ok.useQ .nil ?_
  conv => whnf
  refine (fit_ok t).useQ (.refl _) ?_
  conv => whnf
  refine bsel_intro (fun h0 => ?_) (fun h0 => ?_)
  · conv => whnf
    refine (sformed_ok t).useQ (.refl _) ?_
    conv => whnf
    refine (formed_ok t).useQ (.refl _) ?_
    conv => whnf
    exact retB TTok rfl (by simp)
  · conv => whnf
    exact retB TTok rfl rfl
end Go.Ab
