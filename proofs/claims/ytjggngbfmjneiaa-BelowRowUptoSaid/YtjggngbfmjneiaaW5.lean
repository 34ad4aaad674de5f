import Derived.Test.YtjggngbfmjneiaaW4
set_option linter.unusedVariables false
set_option linter.unusedSimpArgs false
set_option maxRecDepth 4000
namespace Go.Ab
open Go.Proofs

theorem bare_ok (t : Ty) : PCall Try.prog 23 [vTy t] (vBool (tt (Bare t))) := by
  refine PCall.of_fx TTok mixed Try.func23 rfl (by decide) rfl rfl ?_
  conv => whnf
  repeat' (refine bsel_intro (fun _ => ?_) (fun _ => ?_) <;> conv => whnf)
  all_goals exact retB TTok rfl (tt_eq (by rw [bare_iff]; simp_all [ofNat_cast]))
theorem never_ok (t : Ty) : PCall Try.prog 20 [vTy t] (vBool (tt (Never t))) := by
  refine PCall.of_fx TTok mixed Try.func20 rfl (by decide) rfl rfl ?_
  conv => whnf
  refine bsel_intro (fun h1 => ?_) (fun h1 => ?_)
  · have h1 : t.all = false := by simpa using h1
    conv => whnf
    refine (bare_ok t).use (.refl _) ?_
    conv => whnf
    exact retB TTok rfl (tt_congr ⟨fun h => ⟨h1, h⟩, fun h => h.bare⟩)
  · have h1 : t.all = true := by simpa using h1
    conv => whnf
    exact retB TTok rfl (tt_f fun h => by have := h.all; rw [h1] at this; cases this)
end Go.Ab
