import Derived.Test.YtjggngbfmjneiaaGreatW51
import Derived.Test.YtjggngbfmjneiaaGreatW47
import Derived.Test.YtjggngbfmjneiaaGreatW8
import Derived.Test.YtjggngbfmjneiaaGreatW7
import Derived.Test.YtjggngbfmjneiaaGreatPZ
set_option linter.unusedVariables false
set_option linter.unusedSimpArgs false
set_option maxRecDepth 4000
namespace Go.Ab
open Go.Proofs

theorem below_c {a b : Ty} (wa : Bw a) (wb : Bw b) : BelC a b := below_ok names_c b wb a wa
theorem apart_c {a b : Ty} (wa : Bw a) (wb : Bw b) : ApaC a b := apart_ok names_c a b wa wb

theorem entA : EntV (.agg [.d (.lit (.bool false)), .d (.lit (.bool false)), .d (.lit (.bool false)), .d (.lit (.bool false)), .d (.lit (.slice none 0 0)), .d (.lit (.bool false)), .xs [[.lit (.string ⟨#[97]⟩)]], .d (.lit (.slice none 0 0)), .d (.lit (.slice none 0 0))]) (vTy lvA) :=
  .agg (.cons (.refl _) (.cons (.refl _) (.cons (.refl _) (.cons (.refl _) (.cons .nil_sl (.cons (.refl _) (.cons (.xs_sl _) (.cons .nil_sl (.cons .nil_sl .nil)))))))))
theorem entB : EntV (.agg [.d (.lit (.bool false)), .d (.lit (.bool false)), .d (.lit (.bool false)), .d (.lit (.bool false)), .d (.lit (.slice none 0 0)), .d (.lit (.bool true)), .d (.lit (.slice none 0 0)), .d (.lit (.slice none 0 0)), .d (.lit (.slice none 0 0))]) (vTy lvB) :=
  .agg (.cons (.refl _) (.cons (.refl _) (.cons (.refl _) (.cons (.refl _) (.cons .nil_sl (.cons (.refl _) (.cons .nil_sl (.cons .nil_sl (.cons .nil_sl .nil)))))))))
theorem entN : EntV (.agg [.d (.lit (.bool false)), .d (.lit (.bool true)), .d (.lit (.bool false)), .d (.lit (.bool false)), .d (.lit (.slice none 0 0)), .d (.lit (.bool false)), .d (.lit (.slice none 0 0)), .d (.lit (.slice none 0 0)), .d (.lit (.slice none 0 0))]) (vTy lvN) :=
  .agg (.cons (.refl _) (.cons (.refl _) (.cons (.refl _) (.cons (.refl _) (.cons .nil_sl (.cons (.refl _) (.cons .nil_sl (.cons .nil_sl (.cons .nil_sl .nil)))))))))

theorem lives12_ok : PCall Tryz.prog 5 [] (vBool true) := by
  have wA : Bw lvA := bw_plain rfl rfl rfl
  have wB : Bw lvB := bw_plain rfl rfl rfl
  have wN : Bw lvN := bw_plain rfl rfl rfl
  have c1 := below_c wA wB
  have c2 := below_c wB wA
  have c3 := apart_c wA wN
  have c4 := apart_c wA wB
  unfold BelC at c1 c2
  unfold ApaC at c3 c4
  rw [tt_iff.2 lv_below] at c1
  rw [tt_not.2 lv_notBelow] at c2
  rw [tt_iff.2 lv_apart] at c3
  rw [tt_not.2 lv_notApart] at c4
  refine PCall.of_fx TTok mixed Tryz.func5 rfl (by decide) rfl rfl ?_
  conv => whnf
  refine c1.use (.cons entA (.cons entB .nil)) ?_
  conv => whnf
  refine c2.use (.cons entB (.cons entA .nil)) ?_
  conv => whnf
  refine c3.use (.cons entA (.cons entN .nil)) ?_
  conv => whnf
  refine c4.use (.cons entA (.cons entB .nil)) ?_
  conv => whnf
  exact retB TTok rfl rfl

/-- What the statements ask of a type. -/
def FitF (t : Ty) : Prop := t.pt 2000 ≤ 2000 ∧ Formed t
theorem formed12_ok (t : Ty) : PCall Tryz.prog 6 [vTy t] (vBool (tt (FitF t))) := by
  refine PCall.of_fx TTok mixed Tryz.func6 rfl (by decide) rfl rfl ?_
  conv => whnf
  refine (fit_ok t).use (.refl _) ?_
  conv => whnf
  refine bsel_intro (fun h1 => ?_) (fun h1 => ?_)
  · have h1 : t.pt 2000 ≤ 2000 := by simpa using h1
    conv => whnf
    refine (formed_ok t).use (.refl _) ?_
    conv => whnf
    exact retB TTok rfl (tt_congr ⟨fun h => ⟨h1, h⟩, fun h => h.2⟩)
  · have h1 : ¬t.pt 2000 ≤ 2000 := by simpa using h1
    conv => whnf
    exact retB TTok rfl ((tt_not.2 fun h => h1 h.1).symm)
end Go.Ab
