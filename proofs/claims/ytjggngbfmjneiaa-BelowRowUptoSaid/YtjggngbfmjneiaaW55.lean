import Derived.Test.YtjggngbfmjneiaaW54
import Derived.Test.YtjggngbfmjneiaaW5
import Derived.Test.YtjggngbfmjneiaaPZi
set_option linter.unusedVariables false
set_option linter.unusedSimpArgs false
set_option maxRecDepth 4000
namespace Go.Ab
open Go.Proofs

set_option maxHeartbeats 4000000 in
theorem belowRow_ok (a b c : Ty) : PCall Try.prog 6 [vTy a, vTy b, vTy c] (vBool true) := by
  refine PCall.bd Try.func6 rfl (by decide) rfl rfl (fun hbd => ?_)
  have da := deep_of (hbd 0 (by simp))
  have db := deep_of (hbd 1 (by simp))
  have dc := deep_of (hbd 2 (by simp))
  refine PCall.of_fx TTok mixed Try.func6 rfl (by decide) rfl rfl ?_
  conv => whnf
  refine lives12_ok.use .nil ?_
  conv => whnf
  refine (formed12_ok a).use (.refl _) ?_
  conv => whnf
  refine bsel_intro (fun h1 => ?_) (fun h1 => ?_)
  case' refine_2 =>
    conv => whnf
    exact retB TTok rfl rfl
  have h1 : FitF a := tt_iff.1 (by simpa using h1)
  conv => whnf
  refine (formed12_ok b).use (.refl _) ?_
  conv => whnf
  refine bsel_intro (fun h2 => ?_) (fun h2 => ?_)
  case' refine_2 =>
    conv => whnf
    exact retB TTok rfl rfl
  have h2 : FitF b := tt_iff.1 (by simpa using h2)
  conv => whnf
  refine (formed12_ok c).use (.refl _) ?_
  conv => whnf
  refine bsel_intro (fun h3 => ?_) (fun h3 => ?_)
  · conv => whnf
    exact retB TTok rfl rfl
  have h3 : FitF c := tt_iff.1 (by simpa using h3)
  have wa := bw_fit da h1
  have wb := bw_fit db h2
  have wc := bw_fit dc h3
  have c0 := below_c wa wa
  have c1 := apart_c wa wa
  have c2 := never_ok a
  unfold BelC at c0
  unfold ApaC at c1
  rw [tt_iff.2 (below_refl a wa)] at c0
  rw [tt_congr (q := Never a) ⟨fun h => apart_self h rfl h1.2 wa, fun h => apart_none h h1.2⟩] at c1
  have cab := below_c wa wb
  have cbc := below_c wb wc
  have cac := below_c wa wc
  have sb := single_ok b
  have sc := single_ok c
  have xbc := apart_c wb wc
  have xcb := apart_c wc wb
  have xac := apart_c wa wc
  unfold BelC at cab cbc cac
  unfold ApaC at xbc xcb xac
  rw [tt_congr (q := ApartP b c) ⟨fun h => apart_sym h wc wb, fun h => apart_sym h wb wc⟩] at xcb
  have f1 : tt (BelowP a b) = true → tt (BelowP b c) = true → tt (BelowP a c) = true := fun h k => tt_iff.2 (below_trans (tt_iff.1 h) h1.2 h2.2 wa wb c h3.2 wc (tt_iff.1 k))
  have f2 : tt (BelowP a b) = true → tt (ApartP b c) = true → tt (ApartP a c) = true := fun h k => tt_iff.2 (below_apart (tt_iff.1 h) h1.2 h2.2 wa wb c h3.2 wc (tt_iff.1 k))
  generalize tt (BelowP a b) = p at cab f1 f2
  generalize tt (BelowP b c) = q at cbc f1
  generalize tt (BelowP a c) = r at cac f1
  generalize tt (ApartP b c) = x at xbc xcb f2
  generalize tt (ApartP a c) = z at xac f2
  generalize tt (SingleP b) = s at sb
  generalize tt (SingleP c) = t at sc
  generalize tt (Never a) = n at c1 c2
  conv => whnf
  (refine ⟨by decide +kernel, ?_⟩; conv => whnf)
  refine c0.useQ (.refl _) ?_
  conv => whnf
  refine c1.useQ (.refl _) ?_
  conv => whnf
  refine c2.useQ (.refl _) ?_
  conv => whnf
  refine bsel_false (by cases n <;> rfl) ?_
  conv => whnf
  refine cab.use (.refl _) ?_
  conv => whnf
  refine cbc.use (.refl _) ?_
  conv => whnf
  cases p
  · conv => whnf
    refine xbc.use (.refl _) ?_
    conv => whnf
    refine xcb.use (.refl _) ?_
    conv => whnf
    cases x
    · conv => whnf
      exact retB TTok rfl rfl
    · conv => whnf
      exact retB TTok rfl rfl
  · conv => whnf
    cases q
    · conv => whnf
      refine xbc.use (.refl _) ?_
      conv => whnf
      refine xcb.use (.refl _) ?_
      conv => whnf
      cases x
      · conv => whnf
        exact retB TTok rfl rfl
      · have f2 : z = true := f2 rfl rfl
        subst f2
        conv => whnf
        refine xac.use (.refl _) ?_
        conv => whnf
        exact retB TTok rfl rfl
    · conv => whnf
      refine sb.use (.refl _) ?_
      conv => whnf
      cases s
      · conv => whnf
        refine xbc.use (.refl _) ?_
        conv => whnf
        refine xcb.use (.refl _) ?_
        conv => whnf
        cases x
        · conv => whnf
          exact retB TTok rfl rfl
        · have f2 : z = true := f2 rfl rfl
          subst f2
          conv => whnf
          refine xac.use (.refl _) ?_
          conv => whnf
          exact retB TTok rfl rfl
      · conv => whnf
        refine sc.use (.refl _) ?_
        conv => whnf
        cases t
        · conv => whnf
          refine xbc.use (.refl _) ?_
          conv => whnf
          refine xcb.use (.refl _) ?_
          conv => whnf
          cases x
          · conv => whnf
            exact retB TTok rfl rfl
          · have f2 : z = true := f2 rfl rfl
            subst f2
            conv => whnf
            refine xac.use (.refl _) ?_
            conv => whnf
            exact retB TTok rfl rfl
        · conv => whnf
          have f1 : r = true := f1 rfl rfl
          subst f1
          refine cac.use (.refl _) ?_
          conv => whnf
          refine xbc.use (.refl _) ?_
          conv => whnf
          refine xcb.use (.refl _) ?_
          conv => whnf
          cases x
          · conv => whnf
            exact retB TTok rfl rfl
          · have f2 : z = true := f2 rfl rfl
            subst f2
            conv => whnf
            refine xac.use (.refl _) ?_
            conv => whnf
            exact retB TTok rfl rfl
end Go.Ab
