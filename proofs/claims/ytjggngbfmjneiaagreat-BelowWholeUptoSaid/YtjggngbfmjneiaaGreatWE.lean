import Derived.Test.YtjggngbfmjneiaaGreatPG
import Derived.Test.YtjggngbfmjneiaaGreatTab
set_option linter.unusedVariables false
set_option linter.unusedSimpArgs false
set_option maxRecDepth 4000
namespace Go.Ab
open Go.Proofs

theorem sEvery_ok : PCall Tryz.prog 101 [] (vTy tyAll) := by
  refine PCall.of_fx TTok mixed Tryz.func101 rfl (by decide) rfl rfl ?_
  conv => whnf
  exact retP TTok rfl (entTy .nil_sl .nil_sl .nil_sl .nil_sl) rfl
end Go.Ab
