import Derived.Test.YtjggngbfmjneiaaGreatW11
set_option linter.unusedVariables false
set_option linter.unusedSimpArgs false
set_option maxRecDepth 4000
namespace Go.Ab
open Go.Proofs

theorem size_ok (a b : ByteArray) : PCall Tryz.prog 115 [vStr a, vStr b] (vInt (numPos a b)) := by
  refine PCall.bd Tryz.func115 rfl (by decide) rfl rfl (fun hbd => ?_)
  have ha : a.size ≤ 4611686018427387904 := D.Bd.str (hbd 0 (by simp))
  have hb : b.size ≤ 4611686018427387904 := D.Bd.str (hbd 1 (by simp))
  have w : IntKind.i64.wrap ((a.size : Int) - b.size) = a.size - b.size := wrap_id (by omega) (by omega)
  refine PCall.of_fx TTok mixed Tryz.func115 rfl (by decide) rfl rfl ?_
  conv => whnf
  refine bsel_intro (fun h1 => ?_) (fun h1 => ?_)
  · have h1 : a.size ≠ b.size := by simp [ofNat_cast] at h1; omega
    conv => whnf
    refine retI TTok rfl ?_
    simp only [ofNat_cast, w, numPos, if_neg h1]
    split <;> split <;> split <;> omega
  · have h1 : a.size = b.size := by simp [ofNat_cast] at h1; omega
    conv => whnf
    refine bsel_intro (fun h2 => ?_) (fun h2 => ?_)
    · conv => whnf
      exact retI TTok rfl (by simp [numPos, h1, cmpS, h2])
    · conv => whnf
      refine bsel_intro (fun h3 => ?_) (fun h3 => ?_)
      · conv => whnf
        exact retI TTok rfl (by simp [h2] at h3; simp [numPos, h1, cmpS, h2, h3])
      · conv => whnf
        exact retI TTok rfl (by simp [h2] at h3; simp [numPos, h1, cmpS, h2, h3])

end Go.Ab
