import Derived.Test.YtjggngbfmjneiaaW11
set_option linter.unusedVariables false
set_option linter.unusedSimpArgs false
set_option maxRecDepth 4000
namespace Go.Ab
open Go.Proofs

theorem size_ok (a b : ByteArray) : PCall Try.prog 113 [vStr a, vStr b] (vInt (numPos a b)) := by
  refine PCall.bd Try.func113 rfl (by decide) rfl rfl (fun hbd => ?_)
  have ha : a.size ≤ 4611686018427387904 := D.Bd.str (hbd 0 (by simp))
  have hb : b.size ≤ 4611686018427387904 := D.Bd.str (hbd 1 (by simp))
  have w : IntKind.i64.wrap ((a.size : Int) - b.size) = a.size - b.size := wrap_id (by omega) (by omega)
  refine PCall.of_fx TTok mixed Try.func113 rfl (by decide) rfl rfl ?_
  conv => whnf
  refine bsel_intro (fun h1 => ?_) (fun h1 => ?_)
  · have h1 : a.size ≠ b.size := by simp [ofNat_cast] at h1; omega
    conv => whnf
    refine retI TTok rfl ?_
    simp only [ofNat_cast, w, numPos, if_neg h1]
    split <;> split <;> split <;> omega
  · have h1 : a.size = b.size := by simp [ofNat_cast] at h1; omega
    conv => whnf
    refine bsel_intro (fun h2 => ?_) (fun h2 => ?_)
    · conv => whnf
      exact retI TTok rfl (by simp [numPos, h1, cmpS, h2])
    · conv => whnf
      refine bsel_intro (fun h3 => ?_) (fun h3 => ?_)
      · conv => whnf
        exact retI TTok rfl (by simp [h2] at h3; simp [numPos, h1, cmpS, h2, h3])
      · conv => whnf
        exact retI TTok rfl (by simp [h2] at h3; simp [numPos, h1, cmpS, h2, h3])

theorem cmpStr_ok (a b : ByteArray) : PCall Try.prog 65 [vStr a, vStr b] (vInt (cmpS a b)) := by
  have hn : ∀ s, PCall Try.prog 92 [vStr s] (vBool false) := fun s => by
    refine PCall.of_fx TTok mixed Try.func92 rfl (by decide) rfl rfl ?_
    conv => whnf
    exact retB TTok rfl (by simp [strEq_iff])
  refine PCall.of_fx TTok mixed Try.func65 rfl (by decide) rfl rfl ?_
  conv => whnf
  refine (hn a).use (.refl _) ?_
  conv => whnf
  refine (hn b).use (.refl _) ?_
  conv => whnf
  refine bsel_intro (fun h2 => ?_) (fun h2 => ?_)
  · conv => whnf
    exact retI TTok rfl (by simp [cmpS, h2])
  · conv => whnf
    refine bsel_intro (fun h3 => ?_) (fun h3 => ?_)
    · conv => whnf
      exact retI TTok rfl (by simp [h2] at h3; simp [cmpS, h2, h3])
    · conv => whnf
      exact retI TTok rfl (by simp [h2] at h3; simp [cmpS, h2, h3])

theorem cmpInt_ok (a b : Int) : PCall Try.prog 66 [vInt a, vInt b] (vInt (cmpI a b)) := by
  have hn : ∀ s, PCall Try.prog 93 [vInt s] (vBool false) := fun s => by
    refine PCall.of_fx TTok mixed Try.func93 rfl (by decide) rfl rfl ?_
    conv => whnf
    exact retB TTok rfl (by simp)
  refine PCall.of_fx TTok mixed Try.func66 rfl (by decide) rfl rfl ?_
  conv => whnf
  refine (hn a).use (.refl _) ?_
  conv => whnf
  refine (hn b).use (.refl _) ?_
  conv => whnf
  refine bsel_intro (fun h2 => ?_) (fun h2 => ?_)
  · have h2 := of_decide_eq_true h2
    conv => whnf
    exact retI TTok rfl (by simp [cmpI, h2])
  · have h2 := of_decide_eq_false h2
    conv => whnf
    refine bsel_intro (fun h3 => ?_) (fun h3 => ?_)
    · have h3 := of_decide_eq_true h3
      conv => whnf
      exact retI TTok rfl (by rw [cmpI, if_neg h2, if_pos h3])
    · have h3 := of_decide_eq_false h3
      conv => whnf
      exact retI TTok rfl (by rw [cmpI, if_neg h2, if_neg h3])

theorem most_ok (a b : Int) : PCall Try.prog 67 [vInt a, vInt b] (vInt (mostC a b)) := by
  refine PCall.of_fx TTok mixed Try.func67 rfl (by decide) rfl rfl ?_
  conv => whnf
  refine bsel_intro (fun h1 => ?_) (fun h1 => ?_)
  · have h1 := eqI h1
    conv => whnf
    exact retI TTok rfl (by simp [mostC, h1])
  · have h1 := neI h1
    conv => whnf
    refine bsel_intro (fun h2 => ?_) (fun h2 => ?_)
    · have h2 := of_decide_eq_true h2
      conv => whnf
      exact retI TTok rfl (by rw [mostC, if_neg h1, if_pos h2])
    · have h2 := of_decide_eq_false h2
      conv => whnf
      refine bsel_intro (fun h3 => ?_) (fun h3 => ?_)
      · have h3 := of_decide_eq_true h3
        conv => whnf
        exact retI TTok rfl (by rw [mostC, if_neg h1, if_neg h2, if_pos h3])
      · have h3 := of_decide_eq_false h3
        conv => whnf
        refine (cmpInt_ok a b).use (.refl _) ?_
        conv => whnf
        exact retI TTok rfl (by rw [mostC, if_neg h1, if_neg h2, if_neg h3])
end Go.Ab
