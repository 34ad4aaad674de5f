import Derived.Test.YtjggngbfmjneiaaDoorW19
import Derived.Test.YtjggngbfmjneiaaDoorPV
set_option linter.unusedVariables false
set_option linter.unusedSimpArgs false
set_option maxRecDepth 4000
namespace Go.Ab
open Go.Proofs

def s3 : ByteArray := ⟨#[51]⟩
def v3 : Val := .mk 3 s3 ⟨#[]⟩ [] []
def ty3 : Ty := .mk false false false false [⟨s3, s3⟩] false [] [] []
theorem numOk3 : NumOk s3 where
  digs i hi := by
    have : i < 1 := hi
    obtain rfl : i = 0 := by omega
    exact ⟨by decide, by decide⟩
  some := by decide
  zero := by decide

theorem sNever_ok : PCall Tryd.prog 21 [] (vTy tyNil) := by
  refine PCall.of_fx TTok mixed Tryd.func21 rfl (by decide) rfl rfl ?_
  conv => whnf
  exact retP TTok rfl (entTy .nil_sl .nil_sl .nil_sl .nil_sl) rfl
theorem sEvery_ok : PCall Tryd.prog 22 [] (vTy tyAll) := by
  refine PCall.of_fx TTok mixed Tryd.func22 rfl (by decide) rfl rfl ?_
  conv => whnf
  exact retP TTok rfl (entTy .nil_sl .nil_sl .nil_sl .nil_sl) rfl
theorem empty_num (v : Val) (h1 : v.text = ⟨#[]⟩) (h2 : v.items = []) (h3 : v.keys = []) : PCall Tryd.prog 90 [vVal v, vBool true, vBool false, vBool false, vBool false] (vBool true) := by
  refine PCall.of_fx TTok mixed Tryd.func90 rfl (by decide) rfl rfl ?_
  conv => whnf
  refine bsel_true (by rw [h1]; rfl) ?_
  conv => whnf
  refine bsel_true (by rw [h2]; rfl) ?_
  conv => whnf
  exact retB TTok rfl (by rw [h3]; rfl)
theorem vFormed_num : PCall Tryd.prog 62 [vVal v3] (vBool true) := by
  refine PCall.of_fx TTok mixed Tryd.func62 rfl (by decide) rfl rfl ?_
  conv => whnf
  refine (empty_num v3 rfl rfl rfl).use (.refl _) ?_
  conv => whnf
  refine (tensFormed_ok s3).use (.refl _) ?_
  conv => whnf
  exact retB TTok rfl (tt_iff.2 numOk3)
theorem near_num : PCall Tryd.prog 63 [vVal v3, vInt 8] (vTy ty3) := by
  refine PCall.of_fx TTok mixed Tryd.func63 rfl (by decide) rfl rfl ?_
  conv => whnf
  exact retP TTok rfl (entTy (.xs_sl _) .nil_sl .nil_sl .nil_sl) rfl
theorem of_num : PCall Tryd.prog 23 [vVal v3] (.tup [vTy ty3, vInt 0]) := by
  refine PCall.of_fx TTok mixed Tryd.func23 rfl (by decide) rfl rfl ?_
  conv => whnf
  refine vFormed_num.use (.refl _) ?_
  conv => whnf
  refine near_num.use (.refl _) ?_
  conv => whnf
  exact retP TTok rfl (.refl _) rfl
theorem lives_ok : PCall Tryd.prog 6 [] (vBool true) := by
  refine PCall.of_fx TTok mixed Tryd.func6 rfl (by decide) rfl rfl ?_
  conv => whnf
  refine sNever_ok.use .nil ?_
  conv => whnf
  refine sEvery_ok.use .nil ?_
  conv => whnf
  refine of_num.use (.cons (.agg (.cons (.refl _) (.cons (.refl _) (.cons (.refl _) (.cons .nil_sl (.cons .nil_sl .nil)))))) .nil) ?_
  conv => whnf
  refine (sameTy_ok ty3 ty3).use (.cons (.refl _) (.cons (entTy (.xs_sl _) .nil_sl .nil_sl .nil_sl) .nil)) ?_
  conv => whnf
  refine bsel_false (by simp [tt_iff]) ?_
  conv => whnf
  refine (sameTy_ok tyNil tyNil).use (.cons (.refl _) (.cons (entTy .nil_sl .nil_sl .nil_sl .nil_sl) .nil)) ?_
  conv => whnf
  refine bsel_true (by simp [tt_iff]) ?_
  conv => whnf
  refine (sameTy_ok tyAll tyAll).use (.cons (.refl _) (.cons (entTy .nil_sl .nil_sl .nil_sl .nil_sl) .nil)) ?_
  conv => whnf
  exact retB TTok rfl (tt_iff.2 rfl)
end Go.Ab
