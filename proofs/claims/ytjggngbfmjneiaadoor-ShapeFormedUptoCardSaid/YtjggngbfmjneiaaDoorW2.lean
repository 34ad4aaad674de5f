import Derived.Test.YtjggngbfmjneiaaDoorPC
import Derived.Test.YtjggngbfmjneiaaDoorTab
set_option linter.unusedVariables false
set_option linter.unusedSimpArgs false
namespace Go.Ab
open Go.Proofs

theorem texts_ok (a b : ByteArray) : PCall Tryd.prog 70 [vStr a, vStr b] (vInt (cmpS a b)) := by
  refine PCall.of_fx TTok mixed Tryd.func70 rfl (by decide) rfl rfl ?_
  conv => whnf
  refine bsel_intro (fun h => ?_) (fun h => ?_)
  · conv => whnf
    exact retI TTok rfl (by simp [cmpS, h])
  · conv => whnf
    refine bsel_intro (fun h2 => ?_) (fun h2 => ?_)
    · conv => whnf
      exact retI TTok rfl (by simp [h] at h2; simp [cmpS, h, h2])
    · conv => whnf
      exact retI TTok rfl (by simp [h] at h2; simp [cmpS, h, h2])
end Go.Ab
