import Derived.Test.YtjggngbfmjneiaaW16
import Derived.Test.YtjggngbfmjneiaaW10
import Derived.Test.YtjggngbfmjneiaaPG
set_option linter.unusedVariables false
set_option linter.unusedSimpArgs false
set_option maxRecDepth 4000
namespace Go.Ab
open Go.Proofs

def tyAll : Ty := .mk true false false false [] false [] [] []
theorem gd_nil : Gd tyNil := .mk (fun _ h => by cases h) (fun _ h => by cases h) (fun _ h => by cases h) (fun _ h => by cases h) (fun _ h => by cases h)
theorem gd_all : Gd tyAll := .mk (fun _ h => by cases h) (fun _ h => by cases h) (fun _ h => by cases h) (fun _ h => by cases h) (fun _ h => by cases h)
theorem cmp_nil_all : cmpTy tyNil tyAll = -1 := by rw [cmpTy_eq]; rfl

set_option maxHeartbeats 4000000 in
theorem shapeRow_ok (a b c : Ty) : PCall Try.prog 4 [vTy a, vTy b, vTy c] (vBool true) := by
  refine PCall.of_fx TTok mixed Try.func4 rfl (by decide) rfl rfl ?_
  conv => whnf
  refine (cmp_ok tyNil gd_nil.bok tyAll gd_all.bok).use (.cons ?_ (.cons ?_ .nil)) ?_
  · exact .agg (.cons (.refl _) (.cons (.refl _) (.cons (.refl _) (.cons (.refl _) (.cons .nil_sl (.cons (.refl _) (.cons .nil_sl (.cons .nil_sl (.cons .nil_sl .nil)))))))))
  · exact .agg (.cons (.refl _) (.cons (.refl _) (.cons (.refl _) (.cons (.refl _) (.cons .nil_sl (.cons (.refl _) (.cons .nil_sl (.cons .nil_sl (.cons .nil_sl .nil)))))))))
  rw [cmp_nil_all]
  conv => whnf
  refine (fit_ok a).use (.refl _) ?_
  conv => whnf
  refine bsel_intro (fun h0 => ?_) (fun h0 => ?_)
  case' refine_2 =>
    conv => whnf
    exact retB TTok rfl rfl
  conv => whnf
  refine (fit_ok b).use (.refl _) ?_
  conv => whnf
  refine bsel_intro (fun h1 => ?_) (fun h1 => ?_)
  case' refine_2 =>
    conv => whnf
    exact retB TTok rfl rfl
  conv => whnf
  refine (fit_ok c).use (.refl _) ?_
  conv => whnf
  refine bsel_intro (fun h2 => ?_) (fun h2 => ?_)
  case' refine_2 =>
    conv => whnf
    exact retB TTok rfl rfl
  conv => whnf
  refine (formed_ok a).use (.refl _) ?_
  conv => whnf
  refine bsel_intro (fun h3 => ?_) (fun h3 => ?_)
  case' refine_2 =>
    conv => whnf
    exact retB TTok rfl rfl
  have h3 := gd_of _ (tt_iff.1 (by simpa using h3))
  conv => whnf
  refine (formed_ok b).use (.refl _) ?_
  conv => whnf
  refine bsel_intro (fun h4 => ?_) (fun h4 => ?_)
  case' refine_2 =>
    conv => whnf
    exact retB TTok rfl rfl
  have h4 := gd_of _ (tt_iff.1 (by simpa using h4))
  conv => whnf
  refine (formed_ok c).use (.refl _) ?_
  conv => whnf
  refine bsel_intro (fun h5 => ?_) (fun h5 => ?_)
  · conv => whnf
    exact retB TTok rfl rfl
  have h5 := gd_of _ (tt_iff.1 (by simpa using h5))
  conv => whnf
  refine (cmp_ok a h3.bok b h4.bok).use (.refl _) ?_
  conv => whnf
  refine (cmp_ok b h4.bok a h3.bok).use (.refl _) ?_
  conv => whnf
  refine (cmp_ok b h4.bok c h5.bok).use (.refl _) ?_
  conv => whnf
  refine (cmp_ok a h3.bok c h5.bok).use (.refl _) ?_
  conv => whnf
  have e1 := ty_TO.range a b h3 h4
  have e2 := ty_TO.anti a b h3 h4
  have e3 := ty_TO.range b c h4 h5
  have e4 := ty_TO.range a c h3 h5
  have e5 := ty_TO.trans a b c h3 h4 h5
  have e6 := ty_TO.eq a b h3 h4
  generalize cmpTy a b = ab at e1 e2 e5 e6 ⊢
  generalize cmpTy b a = ba at e2 ⊢
  generalize cmpTy b c = bc at e3 e5 ⊢
  generalize cmpTy a c = ac at e4 e5 ⊢
  refine bsel_true (by simp; omega) ?_
  conv => whnf
  refine bsel_true (by simp; omega) ?_
  conv => whnf
  have e7 : IntKind.i64.wrap (-ba) = ab := by rw [wrap_id (by omega) (by omega)]; omega
  refine bsel_true (by simp [e7]) ?_
  conv => whnf
  refine bsel_intro (fun t1 => ?_) (fun t1 => ?_)
  · have t1 : ab ≤ 0 := by simpa using t1
    conv => whnf
    refine bsel_intro (fun t2 => ?_) (fun t2 => ?_)
    · have t2 : bc ≤ 0 := by simpa using t2
      have t3 : ac ≤ 0 := e5 t1 t2
      conv => whnf
      refine bsel_intro (fun t4 => ?_) (fun t4 => ?_)
      · exfalso; simp at t4; omega
      conv => whnf
      refine bsel_intro (fun t5 => ?_) (fun t5 => ?_)
      · have t5 : ab = 0 := by simpa using t5
        conv => whnf
        refine (sameTy_ok a b).use (.refl _) ?_
        conv => whnf
        exact retB TTok rfl (tt_iff.2 (e6 t5))
      · conv => whnf
        exact retB TTok rfl rfl
    · conv => whnf
      refine bsel_intro (fun t5 => ?_) (fun t5 => ?_)
      · have t5 : ab = 0 := by simpa using t5
        conv => whnf
        refine (sameTy_ok a b).use (.refl _) ?_
        conv => whnf
        exact retB TTok rfl (tt_iff.2 (e6 t5))
      · conv => whnf
        exact retB TTok rfl rfl
  · have t1 : 0 < ab := by simpa using t1
    conv => whnf
    refine bsel_intro (fun t5 => ?_) (fun t5 => ?_)
    · exfalso; simp at t5; omega
    conv => whnf
    exact retB TTok rfl rfl
end Go.Ab
