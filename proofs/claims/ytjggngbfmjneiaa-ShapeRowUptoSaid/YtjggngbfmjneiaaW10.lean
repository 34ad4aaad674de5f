import Derived.Test.YtjggngbfmjneiaaW9
set_option linter.unusedVariables false
set_option linter.unusedSimpArgs false
set_option maxRecDepth 4000
namespace Go.Ab
open Go.Proofs

def ty1 : Ty := .mk false false false false [] false [] [] [.mk [] [] [] tyNil]

theorem shapeHeight_ok (t : Ty) : PCall Try.prog 3 [vTy t] (vBool true) := by
  refine PCall.bd Try.func3 rfl (by decide) rfl rfl (fun hbd => ?_)
  have hd : Deep t := deep_of (hbd 0 (by simp))
  refine PCall.of_fx TTok mixed Try.func3 rfl (by decide) rfl rfl ?_
  conv => whnf
  have h1 : ty1.height = 1 := by
    rw [Ty.height_eq]
    show 1 + mxL (mxL (-1) []) [tyNil.height] = 1
    rw [tyNil_height]
    rfl
  refine (height_ok ty1 (by omega)).use (.cons ?_ .nil) ?_
  · exact .agg (.cons (.refl _) (.cons (.refl _) (.cons (.refl _) (.cons (.refl _) (.cons .nil_sl (.cons (.refl _) (.cons .nil_sl (.cons .nil_sl (.cons (.nz_xs rfl) .nil)))))))))
  rw [h1]
  conv => whnf
  (refine ⟨by decide +kernel, ?_⟩; conv => whnf)
  refine (fit_ok t).useQ (.refl _) ?_
  conv => whnf
  refine bsel_intro (fun h2 => ?_) (fun h2 => ?_)
  · have h2 : t.pt 2000 ≤ 2000 := by simpa using h2
    have hh : t.height ≤ 1000000 := by have := (pt_ok t hd 2000 (by omega) (by omega)).high h2; omega
    conv => whnf
    refine (formed_ok t).useQ (.refl _) ?_
    conv => whnf
    refine bsel_intro (fun h3 => ?_) (fun h3 => ?_)
    · conv => whnf
      refine (height_ok t hh).useQ (.refl _) ?_
      conv => whnf
      refine (refHeight_ok t hh).useQ (.refl _) ?_
      conv => whnf
      exact retB TTok rfl (by simp)
    · conv => whnf
      exact retB TTok rfl (by simp)
  · conv => whnf
    exact retB TTok rfl (by simp)
end Go.Ab
