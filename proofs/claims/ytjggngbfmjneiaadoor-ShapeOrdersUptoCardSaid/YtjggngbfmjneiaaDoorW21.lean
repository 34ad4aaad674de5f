import Derived.Test.YtjggngbfmjneiaaDoorW20
set_option linter.unusedVariables false
set_option linter.unusedSimpArgs false
set_option maxRecDepth 4000
namespace Go.Ab
open Go.Proofs

set_option maxHeartbeats 2000000 in
theorem shapeOrders_ok (a b : Ty) : PCall Tryd.prog 3 [vTy a, vTy b] (vBool true) := by
  refine PCall.of_fx TTok mixed Tryd.func3 rfl (by decide) rfl rfl ?_
  conv => whnf
  refine lives_ok.use .nil ?_
  conv => whnf
  refine (fit_ok a).use (.refl _) ?_
  conv => whnf
  refine bsel_intro (fun h0 => ?_) (fun h0 => ?_)
  case' refine_2 =>
    conv => whnf
    exact retB TTok rfl rfl
  conv => whnf
  refine (fit_ok b).use (.refl _) ?_
  conv => whnf
  refine bsel_intro (fun h1 => ?_) (fun h1 => ?_)
  case' refine_2 =>
    conv => whnf
    exact retB TTok rfl rfl
  conv => whnf
  refine (formed_ok a).use (.refl _) ?_
  conv => whnf
  refine bsel_intro (fun h2 => ?_) (fun h2 => ?_)
  case' refine_2 =>
    conv => whnf
    exact retB TTok rfl rfl
  have h2 : Formed a := tt_iff.1 (by simpa using h2)
  conv => whnf
  refine (formed_ok b).use (.refl _) ?_
  conv => whnf
  refine bsel_intro (fun h3 => ?_) (fun h3 => ?_)
  · conv => whnf
    exact retB TTok rfl rfl
  have h3 : Formed b := tt_iff.1 (by simpa using h3)
  have ga := gd_of _ h2
  have gb := gd_of _ h3
  conv => whnf
  refine (rcmp_ok a h2 b h3).use (.refl _) ?_
  conv => whnf
  refine (cmp_ok a ga.bok b gb.bok).use (.refl _) ?_
  conv => whnf
  refine bsel_true (by simp) ?_
  conv => whnf
  refine (same_ok a b ga.bok gb.bok).use (.refl _) ?_
  conv => whnf
  refine bsel_true (by simp; rfl) ?_
  conv => whnf
  refine (sameTy_ok a b).use (.refl _) ?_
  conv => whnf
  have e : tt (a = b) = decide (cmpTy a b = 0) := (tt_eq (by rw [decide_eq_true_eq]; exact ⟨ty_TO.eq a b ga gb, fun k => by subst k; exact ty_TO.refl ga⟩)).symm
  exact retB TTok rfl (by rw [e]; simp; rfl)
end Go.Ab
