import Derived.Test.YtjggngbfmjneiaaW52
import Derived.Test.YtjggngbfmjneiaaW22
import Derived.Test.YtjggngbfmjneiaaW23
import Derived.Test.YtjggngbfmjneiaaW24f
import Derived.Test.YtjggngbfmjneiaaPZ
set_option linter.unusedVariables false
set_option linter.unusedSimpArgs false
set_option maxRecDepth 4000
namespace Go.Ab
open Go.Proofs

theorem bw_fit {t : Ty} (hd : Deep t) (h : FitF t) : Bw t := bw_of t hd ⟨2000, by omega, by omega, h.1⟩ h.2

set_option maxHeartbeats 2000000 in
theorem belowTrue_ok (a b : Ty) (v : Val) : PCall Try.prog 5 [vTy a, vTy b, vVal v] (vBool true) := by
  refine PCall.bd Try.func5 rfl (by decide) rfl rfl (fun hbd => ?_)
  have da := deep_of (hbd 0 (by simp))
  have db := deep_of (hbd 1 (by simp))
  refine PCall.of_fx TTok mixed Try.func5 rfl (by decide) rfl rfl ?_
  conv => whnf
  refine lives12_ok.use .nil ?_
  conv => whnf
  refine (formed12_ok a).use (.refl _) ?_
  conv => whnf
  refine bsel_intro (fun h1 => ?_) (fun h1 => ?_)
  case' refine_2 =>
    conv => whnf
    exact retB TTok rfl rfl
  have h1 : FitF a := tt_iff.1 (by simpa using h1)
  conv => whnf
  refine (formed12_ok b).use (.refl _) ?_
  conv => whnf
  refine bsel_intro (fun h2 => ?_) (fun h2 => ?_)
  case' refine_2 =>
    conv => whnf
    exact retB TTok rfl rfl
  have h2 : FitF b := tt_iff.1 (by simpa using h2)
  conv => whnf
  refine (fit1_ok v).use (.cons ?_ .nil) ?_
  · have e : vVals [v] = .d (.sl [v.lay]) := by rw [← Val.cells_eq]; rfl
    rw [e]; exact .xs_sl _
  conv => whnf
  refine bsel_intro (fun h3 => ?_) (fun h3 => ?_)
  case' refine_2 =>
    conv => whnf
    exact retB TTok rfl rfl
  conv => whnf
  refine (vformed_ok v).use (.refl _) ?_
  conv => whnf
  refine bsel_intro (fun h4 => ?_) (fun h4 => ?_)
  · conv => whnf
    exact retB TTok rfl rfl
  have h4 : VOk v := tt_iff.1 (by simpa using h4)
  have wa := bw_fit da h1
  have wb := bw_fit db h2
  conv => whnf
  have ca := in_ok a (inOk_of a h1.2) v h4
  have cb := in_ok b (inOk_of b h2.2) v h4
  have cp := below_c wa wb
  have cq := apart_c wa wb
  unfold BelC at cp
  unfold ApaC at cq
  have hbe : tt (BelowP a b) = true → tt (InT a v) = true → tt (InT b v) = true := fun h i => tt_iff.2 (below_in (tt_iff.1 h) wa wb v h4 (tt_iff.1 i))
  have hap : tt (ApartP a b) = true → tt (InT a v) = true → tt (InT b v) = true → False := fun h i j => apart_no (tt_iff.1 h) wa wb v h4 (tt_iff.1 i) (tt_iff.1 j)
  generalize tt (InT a v) = x at ca hbe hap
  generalize tt (InT b v) = y at cb hbe hap
  generalize tt (BelowP a b) = p at cp hbe
  generalize tt (ApartP a b) = q at cq hap
  refine ca.use (.refl _) ?_
  conv => whnf
  refine cb.use (.refl _) ?_
  conv => whnf
  refine cp.use (.refl _) ?_
  cases x <;> cases y <;> cases p <;> cases q
  all_goals first
    | exact absurd (hbe rfl rfl) (by decide)
    | exact (hap rfl rfl rfl).elim
    | (conv => whnf
       refine cq.use (.refl _) ?_
       conv => whnf
       exact retB TTok rfl rfl)
end Go.Ab
